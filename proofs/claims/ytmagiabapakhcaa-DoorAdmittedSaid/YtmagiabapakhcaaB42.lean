/- A part of the proofs about the chapter of the doors; it states no condition of its own. -/
import Derived.Test.YtmagiabapakhcaaB22
import Derived.Test.YtmagiabapakhcaaB34
import Derived.Test.YtmagiabapakhcaaB35
import Derived.Test.YtmagiabapakhcaaB38
import Derived.Test.YtmagiabapakhcaaB40
import Derived.Test.YtmagiabapakhcaaB41
set_option linter.unusedVariables false
set_option linter.unusedSimpArgs false
/- How many people are safe: whoever comes, so long as it is more than are held, plain. -/
namespace Go.Proofs.Ytmagiabapakhcaa
theorem sumTo_nn {n : Nat} {f : Nat → Int} (h : ∀ i, i < n → 0 ≤ f i) : 0 ≤ sumTo n f := by
 induction n with
 | zero => exact Int.le_refl _
 | succ n ih =>
  rw [sumTo_succ]
  have := ih fun i hi => h i (by omega)
  have := h n (by omega)
  omega
theorem sumTo_term {n : Nat} {f : Nat → Int} (h : ∀ i, i < n → 0 ≤ f i) {k : Nat} (hk : k < n) : f k ≤ sumTo n f := by
 induction n with
 | zero => omega
 | succ n ih =>
  rw [sumTo_succ]
  by_cases e : k = n
  ·subst e
   have := sumTo_nn (n := k) (f := f) fun i hi => h i (by omega)
   omega
  ·have := ih (fun i hi => h i (by omega)) (by omega)
   have := h n (by omega)
   omega
theorem cut_term {N : Nat} {C : List (List Int)} (h0 : ∀ i j, i < N → j < N → 0 ≤ at2 C i j) {S : Nat → Bool} {i j : Nat} (hi : i < N) (hj : j < N) (s1 : S i = true) (s2 : S j = false) : at2 C i j ≤ cutOf N C S := by
 have h1 : ∀ i, i < N → ∀ j, j < N → 0 ≤ (if S i && !S j then at2 C i j else 0) := fun i hi j hj => by
  have := h0 i j hi hj
  split <;> omega
 have h2 := sumTo_term (f := fun j => if S i && !S j then at2 C i j else 0) (fun j hj => h1 i hi j hj) hj
 have h3 := sumTo_term (f := fun i => sumTo N fun j => if S i && !S j then at2 C i j else 0) (fun i hi => sumTo_nn fun j hj => h1 i hi j hj) hi
 have e : (if (S i && !S j) = true then at2 C i j else 0) = at2 C i j := by rw [s1, s2]; rfl
 exact Int.le_trans (Int.le_of_eq e.symm) (Int.le_trans h2 h3)
theorem start_at (nH : Nat) (c : Nat → Int) (a b : Nat) : wsAt (startWs nH c) a b = if a = 0 ∧ 2 ≤ b ∧ b < 2 + nH then c (b - 2) else 0 := by
 unfold startWs
 rw [wsAt_rmap]
 have e : ∀ i : Nat, wsAt [⟨0, placeOf nH (i : Int) 0, c i⟩] a b = if i = b - 2 then (if a = 0 ∧ 2 ≤ b then c (b - 2) else 0) else 0 := fun i => by
  rw [wsAt_cons, wsAt_nil, Int.add_zero]
  have hp : placeOf nH (i : Int) 0 = 2 + i := by unfold placeOf; rw [if_neg (by omega), Int.toNat_natCast]; omega
  simp only
  rw [hp]
  by_cases h1 : i = b - 2
  ·subst h1
   by_cases h2 : a = 0 ∧ 2 ≤ b
   ·rw [if_pos rfl, if_pos h2, if_pos ⟨h2.1.symm, by omega⟩]
   ·rw [if_pos rfl, if_neg h2, if_neg (fun q => h2 ⟨q.1.symm, by omega⟩)]
  ·rw [if_neg h1, if_neg (fun q => h1 (by omega))]
 rw [sumTo_congr fun i _ => e i]
 by_cases h : b - 2 < nH
 ·rw [sumTo_one h]
  by_cases h2 : a = 0 ∧ 2 ≤ b
  ·rw [if_pos h2, if_pos ⟨h2.1, h2.2, by omega⟩]
  ·rw [if_neg h2, if_neg (fun q => h2 ⟨q.1, q.2.1⟩)]
 ·rw [sumTo_congr (g := fun _ => 0) fun i hi => if_neg (by omega), sumTo_const0, if_neg (by omega)]
theorem leave_nn {nH : Nat} {ds : List Do} {ticks : Nat} {closed : List Int} {c : Nat → Int} (hn : 1 ≤ nH) (hd : ∀ d ∈ ds, DoOk nH d) (hc : ∀ i, i < nH → 0 ≤ c i ∧ c i ≤ 1073741824) : 0 ≤ Vm.leaveV nH ds ticks closed c := by
 obtain ⟨_, S, _, _, hS⟩ := leave_MF (ticks := ticks) (closed := closed) hn hd hc
 have w1 := waysOf_ok (ticks := ticks) (closed := closed) hd hc
 rw [← hS]
 unfold cutOf
 refine sumTo_nn fun i hi => sumTo_nn fun j hj => ?_
 have := ((tabW_ok _ _ rfl w1).2 i j).1
 split <;> omega
theorem leave_cap {nH : Nat} {ds : List Do} {ticks : Nat} {closed : List Int} {c1 c2 : Nat → Int} {K : Int} (hn : 1 ≤ nH) (hd : ∀ d ∈ ds, DoOk nH d) (hc1 : ∀ i, i < nH → 0 ≤ c1 i ∧ c1 i ≤ 1073741824) (hc2 : ∀ i, i < nH → 0 ≤ c2 i ∧ c2 i ≤ 1073741824) (hle : ∀ i, i < nH → c1 i ≤ c2 i) (hK : ∀ i, i < nH → c1 i = c2 i ∨ K ≤ c1 i) :
  Vm.leaveV nH ds ticks closed c1 ≤ Vm.leaveV nH ds ticks closed c2 ∧ (Vm.leaveV nH ds ticks closed c1 < K → Vm.leaveV nH ds ticks closed c2 = Vm.leaveV nH ds ticks closed c1) := by
 have h1 := leave_MF (ticks := ticks) (closed := closed) hn hd hc1
 have h2 := leave_MF (ticks := ticks) (closed := closed) hn hd hc2
 have w1 := waysOf_ok (ticks := ticks) (closed := closed) hd hc1
 have w2 := waysOf_ok (ticks := ticks) (closed := closed) hd hc2
 have hN : 2 ≤ 2 + (ticks + 1) * nH := by omega
 have hN2 := nh_le nH ticks
 generalize Vm.leaveV nH ds ticks closed c1 = v1 at h1 ⊢
 generalize Vm.leaveV nH ds ticks closed c2 = v2 at h2 ⊢
 generalize 2 + (ticks + 1) * nH = N at h1 h2 w1 w2 hN hN2
 have a1 : ∀ i j, at2 (tabOfW N (waysOf nH ds ticks closed c1)) i j = (if i = 0 ∧ 2 ≤ j ∧ j < 2 + nH then c1 (j - 2) else 0) + wsAt ((List.range ticks).flatMap (tickWs nH ds closed)) i j := fun i j => by
  rw [tabW_at _ _ rfl w1]
  unfold waysOf
  rw [wsAt_app, start_at]
 have a2 : ∀ i j, at2 (tabOfW N (waysOf nH ds ticks closed c2)) i j = (if i = 0 ∧ 2 ≤ j ∧ j < 2 + nH then c2 (j - 2) else 0) + wsAt ((List.range ticks).flatMap (tickWs nH ds closed)) i j := fun i j => by
  rw [tabW_at _ _ rfl w2]
  unfold waysOf
  rw [wsAt_app, start_at]
 have hr : ∀ i j, 0 ≤ wsAt ((List.range ticks).flatMap (tickWs nH ds closed)) i j := fun i j => wsAt_nn (fun w hw => (w1 w (by unfold waysOf; exact List.mem_append_right _ hw)).lo) i j
 have hm : v1 ≤ v2 := h1.mono hN h2 fun i j _ _ => by
  rw [a1, a2]
  split
  ·have := hle (j - 2) (by omega); omega
  ·omega
 refine ⟨hm, fun hv => ?_⟩
 obtain ⟨_, S, s0, s1, hS⟩ := h1
 have hcut : cutOf N (tabOfW N (waysOf nH ds ticks closed c2)) S = cutOf N (tabOfW N (waysOf nH ds ticks closed c1)) S := by
  unfold cutOf
  refine sumTo_congr fun i hi => sumTo_congr fun j hj => ?_
  cases hsi : S i with
  | false => rfl
  | true =>
   cases hsj : S j with
   | true => rfl
   | false =>
    simp only [Bool.not_false, Bool.and_true, if_true]
    rw [a1, a2]
    split
    ·rename_i h
     rcases hK (j - 2) (by omega) with e | e
     ·rw [e]
     ·have ht := cut_term (fun i j _ _ => ((tabW_ok _ _ rfl w1).2 i j).1) hi hj hsi hsj
      rw [hS, a1, if_pos h] at ht
      have := hr i j
      omega
    ·rfl
 have := h2.le_cut hN s0 s1
 omega
def comeL (s j : Nat) : Int := if s.testBit j then 1073741824 else 0
theorem held_bd4 {h : Ho} (V : HV h) (s : Nat) : 0 ≤ heldS s 0 h.holds ∧ heldS s 0 h.holds ≤ 40000 := by
 have h1 := heldS_bd s h.holds 0 V.holds
 have := V.n1
 omega
theorem best_r {h : Ho} (V : HV h) (ticks : Nat) (closed : List Int) (b : Int) (s : Nat) : bestS h ticks closed b s = if Vm.leaveV h.holds.length h.doors ticks closed (comeL s) < heldS s 0 h.holds then min b (Vm.leaveV h.holds.length h.doors ticks closed (comeL s)) else b := by
 have hd : ∀ d ∈ h.doors, DoOk h.holds.length d := fun d hd => (V.doors d hd).ok
 have hb := held_bd4 V s
 obtain ⟨h1, h2⟩ := leave_cap (ticks := ticks) (closed := closed) (c1 := comeS s) (c2 := comeL s) (K := 40000) V.n0 hd (fun i _ => by unfold comeS; split <;> omega) (fun i _ => by unfold comeL; split <;> omega) (fun i _ => by unfold comeS comeL; split <;> omega) (fun i _ => by unfold comeS comeL; split; exact .inr (by omega); exact .inl rfl)
 unfold bestS outS
 by_cases e : Vm.leaveV h.holds.length h.doors ticks closed (comeS s) < 40000
 ·rw [h2 e]
 ·rw [if_neg (by omega), if_neg (by omega)]
end Go.Proofs.Ytmagiabapakhcaa

/- The reference: how many people are safe, on values. (Vm) -/
namespace Go.Proofs.Ytmagiabapakhcaa.Vm
open Go Go.Proofs
end Go.Proofs.Ytmagiabapakhcaa.Vm

/- The reference: Admit and Safe, on values. (Vm) -/
namespace Go.Proofs.Ytmagiabapakhcaa.Vm
open Go Go.Proofs
end Go.Proofs.Ytmagiabapakhcaa.Vm
