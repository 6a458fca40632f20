/- A part of the proofs about the chapter of the doors; it states no condition of its own. -/
import Derived.Test.YtmagiabapakhcaaB33
import Derived.Test.YtmagiabapakhcaaB40
import Derived.Test.YtmagiabapakhcaaB48
import Derived.Test.YtmagiabapakhcaaB49
import Derived.Test.YtmagiabapakhcaaB50
import Derived.Test.YtmagiabapakhcaaB51
set_option linter.unusedVariables false
set_option linter.unusedSimpArgs false
/- Whatever truly went by the doors, plain. -/
namespace Go.Proofs.Ytmagiabapakhcaa
theorem fwd_in {first : Sp} {C : Nat → Sp} {ts : List Int} (h0 : In first (ts.getD 0 0)) (hp : ∀ x ∈ ts, 0 ≤ x) {T : Nat} (hl : ts.length = T + 1) (ht : ∀ t, t < T → In (C t) (ts.getD (t + 1) 0 - ts.getD t 0)) : ∀ t, t ≤ T → In (fwd first C t) (ts.getD t 0)
  | 0, _ => h0
  | t + 1, h => by
    have h1 := fwd_in h0 hp hl ht t (by omega)
    have h2 := ht t (by omega)
    have h3 : 0 ≤ ts.getD (t + 1) 0 := by
      rw [List.getD_eq_getElem?_getD, List.getElem?_eq_getElem (by omega), Option.getD_some]
      exact hp _ (List.getElem_mem _)
    unfold In at *
    rw [fwd, nxt]
    simp only
    omega
theorem bwd_in {first : Sp} {C : Nat → Sp} {ts : List Int} (h0 : In first (ts.getD 0 0)) (hp : ∀ x ∈ ts, 0 ≤ x) {T : Nat} (hl : ts.length = T + 1) (ht : ∀ t, t < T → In (C t) (ts.getD (t + 1) 0 - ts.getD t 0)) : ∀ k, k ≤ T → In (bwd first C T k) (ts.getD (T - k) 0)
  | 0, _ => fwd_in h0 hp hl ht T (Nat.le_refl _)
  | k + 1, h => by
    have h1 := bwd_in h0 hp hl ht k (by omega)
    have h2 := ht (T - (k + 1)) (by omega)
    have h3 := fwd_in h0 hp hl ht (T - (k + 1)) (by omega)
    rw [show T - (k + 1) + 1 = T - k by omega] at h2
    unfold In at *
    simp only [bwd]
    omega
theorem bwd_lo {first : Sp} {C : Nat → Sp} (hf : SpOk first) (hC : Cb C) (T : Nat) : ∀ k, k ≤ T → 0 ≤ (bwd first C T k).lo
  | 0, _ => (fwd_bd hf hC T).1
  | k + 1, h => by
    have := (fwd_bd hf hC (T - (k + 1))).1
    simp only [bwd]
    omega
theorem made_inside {halls doors ticks people : Int} {h : Ho} {ts : List Int} (m : MadeH halls doors ticks people h ts) : ∃ l, insideH h = some l ∧ l.length = ts.length ∧ ∀ t x, l[t]? = some x → In x (ts.getD t 0) ∧ 0 ≤ x.lo := by
  have t0 := m.V.t0
  have hl : ts.length = h.ticks.toNat + 1 := by have := m.len; omega
  have hp : ∀ x ∈ ts, 0 ≤ x := fun x hx => (m.pos x hx).1
  have ht : ∀ t : Nat, t < h.ticks.toNat → In (chg h.counts (t : Int)) (ts.getD (t + 1) 0 - ts.getD t 0) := fun t ht => m.tr t (by omega)
  obtain ⟨C, hC⟩ : ∃ C : Nat → Sp, C = fun t : Nat => chg h.counts (t : Int) := ⟨_, rfl⟩
  have hCb : Cb C := by rw [hC]; exact chg_Cb m.V
  have ht' : ∀ t, t < h.ticks.toNat → In (C t) (ts.getD (t + 1) 0 - ts.getD t 0) := by rw [hC]; exact ht
  have hbad : bad h.first C h.ticks.toNat = false := bad_false fun t htt => by
    have := fwd_in m.first hp hl ht' (t + 1) (by omega)
    unfold In at this
    omega
  refine ⟨insideL h.first C h.ticks.toNat, ?_, by simp [insideL, hl], fun t x hx => ?_⟩
  · unfold insideH
    rw [← hC, hbad]; rfl
  · unfold insideL at hx
    rw [List.getElem?_map] at hx
    rcases Nat.lt_or_ge t (h.ticks.toNat + 1) with q | q
    · rw [List.getElem?_range q, Option.map_some] at hx
      have hx := Option.some.inj hx
      subst hx
      have h1 := bwd_in m.first hp hl ht' (h.ticks.toNat - t) (by omega)
      rw [show h.ticks.toNat - (h.ticks.toNat - t) = t by omega] at h1
      exact ⟨h1, bwd_lo m.V.first hCb _ _ (by omega)⟩
    · rw [List.getElem?_eq_none (by simpa using q)] at hx
      cases hx
end Go.Proofs.Ytmagiabapakhcaa

/- Doors that are shut, and people that are spread, made of numbers, on values. (Vm) -/
namespace Go.Proofs.Ytmagiabapakhcaa.Vm
open Go Go.Proofs
attribute [local irreducible] castF castU fromF fromU oneF oneU
end Go.Proofs.Ytmagiabapakhcaa.Vm

/- Whether those who are inside are safe, on values. (Vm) -/
namespace Go.Proofs.Ytmagiabapakhcaa
theorem insideH_len {h : Ho} {l : List Sp} (hi : insideH h = some l) : l.length = h.ticks.toNat + 1 := by
  unfold insideH at hi
  split at hi
  · cases hi
  · have := Option.some.inj hi
    rw [← this]
    simp [insideL]
end Go.Proofs.Ytmagiabapakhcaa
namespace Go.Proofs.Ytmagiabapakhcaa.Vm
open Go Go.Proofs
end Go.Proofs.Ytmagiabapakhcaa.Vm

/- The law of what truly went by the doors, on values. (Vm) -/
namespace Go.Proofs.Ytmagiabapakhcaa.Vm
open Go Go.Proofs
theorem DH_tail (M : Mem) (u : Int) (L : List VObj) : DH (M.H ++ [.dead]) M.H.length u L = M.H ++ (.obj [uv u] :: L) := by
  unfold DH
  rw [List.append_assoc]
  have := hset0 M.H ([.dead] ++ L) (.obj [uv u])
  rw [this]
  rfl
theorem insideR_some {h : Ho} {l : List Sp} (V : HV h) (hi : insideH h = some l) : insideR h = .tup [spsV l, vi 0] := by
  unfold insideR
  rw [if_pos (houseErr_ok.2 V), hi]
end Go.Proofs.Ytmagiabapakhcaa.Vm
