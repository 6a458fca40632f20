/- A part of the proofs about the chapter of the vaults; it states no condition of its own. -/
import Derived.Test.YtominlgikchnmaaGreatDoorB19
set_option linter.unusedVariables false
set_option linter.unusedSimpArgs false
/- The reference's small functions, on values. (Vm) -/
namespace Go.Proofs.YtominlgikchnmaaGreatDoor.Vm
open Go Go.Proofs
theorem bayOf_v (h : Ha) (c : Pl) (M : Mem) (S : Small h) (c1 : 0 ≤ c.x) (c2 : c.x ≤ 1000) (c3 : 0 ≤ c.y) (c4 : c.y ≤ 1000) : VC Tryz.prog 56 [hallV h, plV c] M (fun r M' => M' = M ∧ r = vi (bayOf h c)) := by
  have hc := cols_le S
  have hS := S
  obtain ⟨w1, w2, d1, d2, x1, x2, y1, y2⟩ := S
  have hy := div_le (n := c.y) (b := h.bay.y) c3 y1
  have hx := div_le (n := c.x) (b := h.bay.x) c1 x1
  have hm := mul_le hy.1 hc.1 (show c.y / h.bay.y ≤ 1000 by omega) hc.2
  have k1 : 0 ≤ c.y ∧ c.y < 9223372036854775808 := by omega
  have k2 : 0 ≤ c.x ∧ c.x < 9223372036854775808 := by omega
  have k3 : -9223372036854775808 ≤ c.y / h.bay.y * ((h.wide + h.bay.x - 1) / h.bay.x) ∧ c.y / h.bay.y * ((h.wide + h.bay.x - 1) / h.bay.x) < 9223372036854775808 := by omega
  have k4 : -9223372036854775808 ≤ c.y / h.bay.y * ((h.wide + h.bay.x - 1) / h.bay.x) + c.x / h.bay.x ∧ c.y / h.bay.y * ((h.wide + h.bay.x - 1) / h.bay.x) + c.x / h.bay.x < 9223372036854775808 := by omega
  have k5 : -9223372036854775808 ≤ h.wide + h.bay.x ∧ h.wide + h.bay.x < 9223372036854775808 := by omega
  have k6 : -9223372036854775808 ≤ h.wide + h.bay.x - 1 ∧ h.wide + h.bay.x - 1 < 9223372036854775808 := by omega
  have k7 : 0 ≤ h.wide + h.bay.x - 1 ∧ h.wide + h.bay.x - 1 < 9223372036854775808 := by omega
  refine VC_own' T_ok (f := 56) (fn := Tryz.f56) (by kernel_rfl) rfl Tryz.ntmps56 (by rfl) (by rfl) ?_
  ((repeat refine W_seq ?_); refine W_region0 T_ok ?_)
  simp (maxSteps := 1000000) only [VL, VM, ↓Gd_none, ↓Gd_t, ↓Gd_f, reduceIte, reduceCtorEq, Int.reduceLE, Int.reduceLT, Int.reduceToNat, Int.reduceNeg, Nat.reduceLT, Nat.reduceEqDiff, Nat.reduceAdd, Nat.reduceSub, Nat.reduceMul, Nat.reduceLeDiff]
  ((repeat refine W_seq ?_); refine W_region0 T_ok ?_)
  simp (maxSteps := 1000000) only [VL, VM, ↓Gd_none, ↓Gd_t, ↓Gd_f, reduceIte, reduceCtorEq, Int.reduceLE, Int.reduceLT, Int.reduceToNat, Int.reduceNeg, Nat.reduceLT, Nat.reduceEqDiff, Nat.reduceAdd, Nat.reduceSub, Nat.reduceMul, Nat.reduceLeDiff, k5, k6, k7, x1]
  (repeat refine W_seq ?_)
  refine W_drawP T_ok [] (by kernel_rfl) (by kernel_rfl) ?_
  generalize hi : mkPlan _ = infs
  cbv at hi
  subst hi
  simp (maxSteps := 1000000) only [VL, VM, ↓Gd_none, ↓Gd_t, ↓Gd_f, reduceIte, reduceCtorEq, Int.reduceLE, Int.reduceLT, Int.reduceToNat, Int.reduceNeg, Nat.reduceLT, Nat.reduceEqDiff, Nat.reduceAdd, Nat.reduceSub, Nat.reduceMul, Nat.reduceLeDiff, k1, k2, k3, k4, x1, y1]
  (repeat refine W_seq ?_)
  refine W_ret ?_
  try simp only [thenQ, blockQ]
  refine own_ret1 rfl ?_ (by rfl)
  simp only [get_cons, frz, vtup, Nat.reduceEqDiff, if_true, if_false, reduceIte]
  rfl
theorem bays_v (h : Ha) (M : Mem) (S : Small h) : VC Tryz.prog 27 [hallV h] M (fun r M' => M' = M ∧ r = vi (baysOf h)) := by
  have hS := S
  obtain ⟨w1, w2, d1, d2, x1, x2, y1, y2⟩ := S
  have k1 : -9223372036854775808 ≤ h.wide - 1 ∧ h.wide - 1 < 9223372036854775808 := by omega
  have k2 : -9223372036854775808 ≤ h.deep - 1 ∧ h.deep - 1 < 9223372036854775808 := by omega
  have hc := cols_le hS
  have hd := div_le (n := h.deep - 1) (b := h.bay.y) (by omega) y1
  have he := div_le (n := h.wide - 1) (b := h.bay.x) (by omega) x1
  have hm := mul_le hd.1 hc.1 (show (h.deep - 1) / h.bay.y ≤ 1000 by omega) hc.2
  have k3 : -9223372036854775808 ≤ bayOf h ⟨h.wide - 1, h.deep - 1⟩ + 1 ∧ bayOf h ⟨h.wide - 1, h.deep - 1⟩ + 1 < 9223372036854775808 := by
    unfold bayOf colsOf
    simp only
    omega
  refine VC_own' T_ok (f := 27) (fn := Tryz.f27) (by kernel_rfl) rfl Tryz.ntmps27 (by rfl) (by rfl) ?_
  ((repeat refine W_seq ?_); refine W_region0 T_ok ?_)
  simp (maxSteps := 1000000) only [VL, VM, ↓Gd_none, ↓Gd_t, ↓Gd_f, reduceIte, reduceCtorEq, Int.reduceLE, Int.reduceLT, Int.reduceToNat, Int.reduceNeg, Nat.reduceLT, Nat.reduceEqDiff, Nat.reduceAdd, Nat.reduceSub, Nat.reduceMul, Nat.reduceLeDiff]
  ((repeat refine W_seq ?_); refine W_region0 T_ok ?_)
  simp (maxSteps := 1000000) only [VL, VM, ↓Gd_none, ↓Gd_t, ↓Gd_f, reduceIte, reduceCtorEq, Int.reduceLE, Int.reduceLT, Int.reduceToNat, Int.reduceNeg, Nat.reduceLT, Nat.reduceEqDiff, Nat.reduceAdd, Nat.reduceSub, Nat.reduceMul, Nat.reduceLeDiff, k1, k2]
  apply call_eq (f := 56) (fn := Tryz.f56) (by kernel_rfl) (by rfl)
  · exact bayOf_v h ⟨h.wide - 1, h.deep - 1⟩ _ hS (by first | omega | (simp only; omega)) (by first | omega | (simp only; omega)) (by first | omega | (simp only; omega)) (by first | omega | (simp only; omega))
  simp (maxSteps := 1000000) only [VL, VM, ↓Gd_none, ↓Gd_t, ↓Gd_f, reduceIte, reduceCtorEq, Int.reduceLE, Int.reduceLT, Int.reduceToNat, Int.reduceNeg, Nat.reduceLT, Nat.reduceEqDiff, Nat.reduceAdd, Nat.reduceSub, Nat.reduceMul, Nat.reduceLeDiff, k3]
  (repeat refine W_seq ?_)
  refine W_ret ?_
  try simp only [thenQ, blockQ]
  refine own_ret1 rfl ?_ (by rfl)
  simp only [get_cons, frz, vtup, Nat.reduceEqDiff, if_true, if_false, reduceIte]
  rw [bays_eq x1 y1]
end Go.Proofs.YtominlgikchnmaaGreatDoor.Vm
