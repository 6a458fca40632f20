/- VaultEnds answers true for every list of numbers. Part 38 of its proof; no conditions. -/
import Derived.Test.YtijcmgfblpokhaaVe37
set_option linter.unusedVariables false
set_option linter.unusedSimpArgs false
/- The program's small functions, on values, part 2. (Vm) -/
namespace Go.Proofs.Ytijcmgfblpokhaa.Vm
open Go Go.Proofs
theorem far_vm (a b : Pl) (M : Mem) (a1 : 0 ≤ a.x) (a2 : a.x ≤ 1000) (a3 : 0 ≤ a.y) (a4 : a.y ≤ 1000) (b1 : 0 ≤ b.x) (b2 : b.x ≤ 1000) (b3 : 0 ≤ b.y) (b4 : b.y ≤ 1000) :
    VC Try.prog 110 [plV a, plV b] M (fun r M' => M' = M ∧ r = vi (farOf a b)) := by
  have k1 : -9223372036854775808 ≤ a.x - b.x ∧ a.x - b.x < 9223372036854775808 := by omega
  have k2 : -9223372036854775808 ≤ b.x - a.x ∧ b.x - a.x < 9223372036854775808 := by omega
  have k3 : -9223372036854775808 ≤ a.y - b.y ∧ a.y - b.y < 9223372036854775808 := by omega
  have k4 : -9223372036854775808 ≤ b.y - a.y ∧ b.y - a.y < 9223372036854775808 := by omega
  have k5 : -9223372036854775808 ≤ max (a.x - b.x) (b.x - a.x) + max (a.y - b.y) (b.y - a.y) ∧ max (a.x - b.x) (b.x - a.x) + max (a.y - b.y) (b.y - a.y) < 9223372036854775808 := by omega
  refine VC_own' T_ok (f := 110) (fn := Try.f110) (by kernel_rfl) rfl Try.ntmps110 (by rfl) (by rfl) ?_
  ((repeat refine W_seq ?_); refine W_region0 T_ok ?_)
  simp (maxSteps := 1000000) only [VL, vappend, ↓Gd_none, ↓Gd_t, ↓Gd_f, ev, ofValue, zipEnv, thenQ, blockQ, vfill, inOrder, toPss, toPs, toP, obound, keyOf, cellInts, elemsOf, nilV, extV, pickV, refs, refsL, isCell, cellsOf, strip1, gdV, pdOk, pdPush, pdTick, Back, cond_true, cond_false, if_true, if_false, forall_const, reduceIte, reduceCtorEq, Int.reduceLE, Int.reduceLT, Int.reduceToNat, Int.reduceNeg, Nat.reduceLT, Nat.reduceEqDiff, Nat.reduceAdd, Nat.reduceSub, Nat.reduceMul, Nat.reduceLeDiff]
  ((repeat refine W_seq ?_); refine W_region0 T_ok ?_)
  simp (maxSteps := 1000000) only [VL, vappend, ↓Gd_none, ↓Gd_t, ↓Gd_f, ev, ofValue, zipEnv, thenQ, blockQ, vfill, inOrder, toPss, toPs, toP, obound, keyOf, cellInts, elemsOf, nilV, extV, pickV, refs, refsL, isCell, cellsOf, strip1, gdV, pdOk, pdPush, pdTick, Back, cond_true, cond_false, if_true, if_false, forall_const, reduceIte, reduceCtorEq, Int.reduceLE, Int.reduceLT, Int.reduceToNat, Int.reduceNeg, Nat.reduceLT, Nat.reduceEqDiff, Nat.reduceAdd, Nat.reduceSub, Nat.reduceMul, Nat.reduceLeDiff, k1, k2, k3, k4, k5]
  (repeat refine W_seq ?_)
  refine W_ret ?_
  try simp only [thenQ, blockQ]
  refine own_ret1 rfl ?_ (by rfl)
  simp only [get_cons, frz, vtup, Nat.reduceEqDiff, if_true, if_false, reduceIte]
  rfl
theorem unless_vm (b : Bool) (n : Int) (M : Mem) : VC Try.prog 103 [vb b, vi n] M (fun r M' => M' = M ∧ r = vi (if b then 0 else n)) := by
  refine VC_own' T_ok (f := 103) (fn := Try.f103) (by kernel_rfl) rfl Try.ntmps103 (by rfl) (by rfl) ?_
  ((repeat refine W_seq ?_); refine W_region0 T_ok ?_)
  simp (maxSteps := 1000000) only [VL, vappend, ↓Gd_none, ↓Gd_t, ↓Gd_f, ev, ofValue, zipEnv, thenQ, blockQ, vfill, inOrder, toPss, toPs, toP, obound, keyOf, cellInts, elemsOf, nilV, extV, pickV, refs, refsL, isCell, cellsOf, strip1, gdV, pdOk, pdPush, pdTick, Back, cond_true, cond_false, if_true, if_false, forall_const, reduceIte, reduceCtorEq, Int.reduceLE, Int.reduceLT, Int.reduceToNat, Int.reduceNeg, Nat.reduceLT, Nat.reduceEqDiff, Nat.reduceAdd, Nat.reduceSub, Nat.reduceMul, Nat.reduceLeDiff]
  ((repeat refine W_seq ?_); refine W_region0 T_ok ?_)
  simp (maxSteps := 1000000) only [VL, vappend, ↓Gd_none, ↓Gd_t, ↓Gd_f, ev, ofValue, zipEnv, thenQ, blockQ, vfill, inOrder, toPss, toPs, toP, obound, keyOf, cellInts, elemsOf, nilV, extV, pickV, refs, refsL, isCell, cellsOf, strip1, gdV, pdOk, pdPush, pdTick, Back, cond_true, cond_false, if_true, if_false, forall_const, reduceIte, reduceCtorEq, Int.reduceLE, Int.reduceLT, Int.reduceToNat, Int.reduceNeg, Nat.reduceLT, Nat.reduceEqDiff, Nat.reduceAdd, Nat.reduceSub, Nat.reduceMul, Nat.reduceLeDiff]
  cases b
  · ((repeat refine W_seq ?_); refine W_cond (b := false) (by first | rfl | simp only [ev, get_cons, Nat.reduceEqDiff, if_true, if_false, reduceIte]) (fun h => by cases h) (fun _ => ?_))
    ((repeat refine W_seq ?_); refine W_skip ?_)
    simp (maxSteps := 1000000) only [VL, vappend, ↓Gd_none, ↓Gd_t, ↓Gd_f, ev, ofValue, zipEnv, thenQ, blockQ, vfill, inOrder, toPss, toPs, toP, obound, keyOf, cellInts, elemsOf, nilV, extV, pickV, refs, refsL, isCell, cellsOf, strip1, gdV, pdOk, pdPush, pdTick, Back, cond_true, cond_false, if_true, if_false, forall_const, reduceIte, reduceCtorEq, Int.reduceLE, Int.reduceLT, Int.reduceToNat, Int.reduceNeg, Nat.reduceLT, Nat.reduceEqDiff, Nat.reduceAdd, Nat.reduceSub, Nat.reduceMul, Nat.reduceLeDiff]
    ((repeat refine W_seq ?_); refine W_region0 T_ok ?_)
    simp (maxSteps := 1000000) only [VL, vappend, ↓Gd_none, ↓Gd_t, ↓Gd_f, ev, ofValue, zipEnv, thenQ, blockQ, vfill, inOrder, toPss, toPs, toP, obound, keyOf, cellInts, elemsOf, nilV, extV, pickV, refs, refsL, isCell, cellsOf, strip1, gdV, pdOk, pdPush, pdTick, Back, cond_true, cond_false, if_true, if_false, forall_const, reduceIte, reduceCtorEq, Int.reduceLE, Int.reduceLT, Int.reduceToNat, Int.reduceNeg, Nat.reduceLT, Nat.reduceEqDiff, Nat.reduceAdd, Nat.reduceSub, Nat.reduceMul, Nat.reduceLeDiff]
    (repeat refine W_seq ?_)
    refine W_ret ?_
    try simp only [thenQ, blockQ]
    refine own_ret10 rfl ?_ (by rfl)
    rfl
  · ((repeat refine W_seq ?_); refine W_cond (b := true) (by first | rfl | simp only [ev, get_cons, Nat.reduceEqDiff, if_true, if_false, reduceIte]) (fun _ => ?_) (fun h => by cases h))
    ((repeat refine W_seq ?_); refine W_region0 T_ok ?_)
    simp (maxSteps := 1000000) only [VL, vappend, ↓Gd_none, ↓Gd_t, ↓Gd_f, ev, ofValue, zipEnv, thenQ, blockQ, vfill, inOrder, toPss, toPs, toP, obound, keyOf, cellInts, elemsOf, nilV, extV, pickV, refs, refsL, isCell, cellsOf, strip1, gdV, pdOk, pdPush, pdTick, Back, cond_true, cond_false, if_true, if_false, forall_const, reduceIte, reduceCtorEq, Int.reduceLE, Int.reduceLT, Int.reduceToNat, Int.reduceNeg, Nat.reduceLT, Nat.reduceEqDiff, Nat.reduceAdd, Nat.reduceSub, Nat.reduceMul, Nat.reduceLeDiff]
    (repeat refine W_seq ?_)
    refine W_ret ?_
    try simp only [thenQ, blockQ]
    refine own_ret10 rfl ?_ (by rfl)
    rfl
theorem bay_vm (h : Ha) (c : Pl) (M : Mem) (S : Small h) (c1 : 0 ≤ c.x) (c2 : c.x ≤ 1000) (c3 : 0 ≤ c.y) (c4 : c.y ≤ 1000) : VC Try.prog 96 [hallV h, plV c] M (fun r M' => M' = M ∧ r = vi (bayOf h c)) := by
  have hc := cols_le S
  have hS := S
  obtain ⟨w1, w2, d1, d2, x1, x2, y1, y2⟩ := S
  have hy := div_le (n := c.y) (b := h.bay.y) c3 y1
  have hx := div_le (n := c.x) (b := h.bay.x) c1 x1
  have hm := mul_le hy.1 hc.1 (show c.y / h.bay.y ≤ 1000 by omega) hc.2
  have k1 : 0 ≤ c.y ∧ c.y < 9223372036854775808 := by omega
  have k2 : 0 ≤ c.x ∧ c.x < 9223372036854775808 := by omega
  have k3 : -9223372036854775808 ≤ c.y / h.bay.y * colsOf h ∧ c.y / h.bay.y * colsOf h < 9223372036854775808 := by unfold colsOf; omega
  have k4 : -9223372036854775808 ≤ c.y / h.bay.y * colsOf h + c.x / h.bay.x ∧ c.y / h.bay.y * colsOf h + c.x / h.bay.x < 9223372036854775808 := by unfold colsOf; omega
  refine VC_own' T_ok (f := 96) (fn := Try.f96) (by kernel_rfl) rfl Try.ntmps96 (by rfl) (by rfl) ?_
  ((repeat refine W_seq ?_); refine W_region0 T_ok ?_)
  simp (maxSteps := 1000000) only [VL, vappend, ↓Gd_none, ↓Gd_t, ↓Gd_f, ev, ofValue, zipEnv, thenQ, blockQ, vfill, inOrder, toPss, toPs, toP, obound, keyOf, cellInts, elemsOf, nilV, extV, pickV, refs, refsL, isCell, cellsOf, strip1, gdV, pdOk, pdPush, pdTick, Back, cond_true, cond_false, if_true, if_false, forall_const, reduceIte, reduceCtorEq, Int.reduceLE, Int.reduceLT, Int.reduceToNat, Int.reduceNeg, Nat.reduceLT, Nat.reduceEqDiff, Nat.reduceAdd, Nat.reduceSub, Nat.reduceMul, Nat.reduceLeDiff]
  (repeat refine W_seq ?_)
  refine W_drawP T_ok [] (by kernel_rfl) (by kernel_rfl) ?_
  generalize hi : mkPlan _ = infs
  cbv at hi
  subst hi
  simp (maxSteps := 1000000) only [VL, vappend, ↓Gd_none, ↓Gd_t, ↓Gd_f, ev, ofValue, zipEnv, thenQ, blockQ, vfill, inOrder, toPss, toPs, toP, obound, keyOf, cellInts, elemsOf, nilV, extV, pickV, refs, refsL, isCell, cellsOf, strip1, gdV, pdOk, pdPush, pdTick, Back, cond_true, cond_false, if_true, if_false, forall_const, reduceIte, reduceCtorEq, Int.reduceLE, Int.reduceLT, Int.reduceToNat, Int.reduceNeg, Nat.reduceLT, Nat.reduceEqDiff, Nat.reduceAdd, Nat.reduceSub, Nat.reduceMul, Nat.reduceLeDiff, k1, y1]
  apply call_d (f := 99) (fn := Try.f99) (by kernel_rfl) (by rfl)
  · exact columns_vm h _ hS
  simp (maxSteps := 1000000) only [VL, vappend, ↓Gd_none, ↓Gd_t, ↓Gd_f, ev, ofValue, zipEnv, thenQ, blockQ, vfill, inOrder, toPss, toPs, toP, obound, keyOf, cellInts, elemsOf, nilV, extV, pickV, refs, refsL, isCell, cellsOf, strip1, gdV, pdOk, pdPush, pdTick, Back, cond_true, cond_false, if_true, if_false, forall_const, reduceIte, reduceCtorEq, Int.reduceLE, Int.reduceLT, Int.reduceToNat, Int.reduceNeg, Nat.reduceLT, Nat.reduceEqDiff, Nat.reduceAdd, Nat.reduceSub, Nat.reduceMul, Nat.reduceLeDiff, k1, k2, k3, k4, x1, y1]
  (repeat refine W_seq ?_)
  refine W_ret ?_
  try simp only [thenQ, blockQ]
  refine own_ret1 rfl ?_ (by rfl)
  simp only [get_cons, frz, vtup, Nat.reduceEqDiff, if_true, if_false, reduceIte]
  rfl
theorem away_vm (n : Int) (M : Mem) : VC Try.prog 101 [vi n] M (fun r M' => M' = M ∧ r = vb (!inR n 0 9)) := by
  refine VC_own' T_ok (f := 101) (fn := Try.f101) (by kernel_rfl) rfl Try.ntmps101 (by rfl) (by rfl) ?_
  ((repeat refine W_seq ?_); refine W_region0 T_ok ?_)
  simp (maxSteps := 1000000) only [VL, vappend, ↓Gd_none, ↓Gd_t, ↓Gd_f, ev, ofValue, zipEnv, thenQ, blockQ, vfill, inOrder, toPss, toPs, toP, obound, keyOf, cellInts, elemsOf, nilV, extV, pickV, refs, refsL, isCell, cellsOf, strip1, gdV, pdOk, pdPush, pdTick, Back, cond_true, cond_false, if_true, if_false, forall_const, reduceIte, reduceCtorEq, Int.reduceLE, Int.reduceLT, Int.reduceToNat, Int.reduceNeg, Nat.reduceLT, Nat.reduceEqDiff, Nat.reduceAdd, Nat.reduceSub, Nat.reduceMul, Nat.reduceLeDiff]
  ((repeat refine W_seq ?_); refine W_region0 T_ok ?_)
  simp (maxSteps := 1000000) only [VL, vappend, ↓Gd_none, ↓Gd_t, ↓Gd_f, ev, ofValue, zipEnv, thenQ, blockQ, vfill, inOrder, toPss, toPs, toP, obound, keyOf, cellInts, elemsOf, nilV, extV, pickV, refs, refsL, isCell, cellsOf, strip1, gdV, pdOk, pdPush, pdTick, Back, cond_true, cond_false, if_true, if_false, forall_const, reduceIte, reduceCtorEq, Int.reduceLE, Int.reduceLT, Int.reduceToNat, Int.reduceNeg, Nat.reduceLT, Nat.reduceEqDiff, Nat.reduceAdd, Nat.reduceSub, Nat.reduceMul, Nat.reduceLeDiff]
  apply call_eq (f := 77) (fn := Try.f77) (by kernel_rfl) (by rfl)
  · exact in_vm _ _ _ _
  simp (maxSteps := 1000000) only [VL, vappend, ↓Gd_none, ↓Gd_t, ↓Gd_f, ev, ofValue, zipEnv, thenQ, blockQ, vfill, inOrder, toPss, toPs, toP, obound, keyOf, cellInts, elemsOf, nilV, extV, pickV, refs, refsL, isCell, cellsOf, strip1, gdV, pdOk, pdPush, pdTick, Back, cond_true, cond_false, if_true, if_false, forall_const, reduceIte, reduceCtorEq, Int.reduceLE, Int.reduceLT, Int.reduceToNat, Int.reduceNeg, Nat.reduceLT, Nat.reduceEqDiff, Nat.reduceAdd, Nat.reduceSub, Nat.reduceMul, Nat.reduceLeDiff]
  (repeat refine W_seq ?_)
  refine W_ret ?_
  try simp only [thenQ, blockQ]
  refine own_ret10 rfl ?_ (by rfl)
  simp only [get_cons, frz, vtup, Nat.reduceEqDiff, if_true, if_false, reduceIte]
theorem bearsin_vm (n : Int) (M : Mem) : VC Try.prog 81 [vi n] M (fun r M' => M' = M ∧ r = vb (!inR n 0 10000000)) := by
  refine VC_own' T_ok (f := 81) (fn := Try.f81) (by kernel_rfl) rfl Try.ntmps81 (by rfl) (by rfl) ?_
  ((repeat refine W_seq ?_); refine W_region0 T_ok ?_)
  simp (maxSteps := 1000000) only [VL, vappend, ↓Gd_none, ↓Gd_t, ↓Gd_f, ev, ofValue, zipEnv, thenQ, blockQ, vfill, inOrder, toPss, toPs, toP, obound, keyOf, cellInts, elemsOf, nilV, extV, pickV, refs, refsL, isCell, cellsOf, strip1, gdV, pdOk, pdPush, pdTick, Back, cond_true, cond_false, if_true, if_false, forall_const, reduceIte, reduceCtorEq, Int.reduceLE, Int.reduceLT, Int.reduceToNat, Int.reduceNeg, Nat.reduceLT, Nat.reduceEqDiff, Nat.reduceAdd, Nat.reduceSub, Nat.reduceMul, Nat.reduceLeDiff]
  ((repeat refine W_seq ?_); refine W_region0 T_ok ?_)
  simp (maxSteps := 1000000) only [VL, vappend, ↓Gd_none, ↓Gd_t, ↓Gd_f, ev, ofValue, zipEnv, thenQ, blockQ, vfill, inOrder, toPss, toPs, toP, obound, keyOf, cellInts, elemsOf, nilV, extV, pickV, refs, refsL, isCell, cellsOf, strip1, gdV, pdOk, pdPush, pdTick, Back, cond_true, cond_false, if_true, if_false, forall_const, reduceIte, reduceCtorEq, Int.reduceLE, Int.reduceLT, Int.reduceToNat, Int.reduceNeg, Nat.reduceLT, Nat.reduceEqDiff, Nat.reduceAdd, Nat.reduceSub, Nat.reduceMul, Nat.reduceLeDiff]
  apply call_eq (f := 77) (fn := Try.f77) (by kernel_rfl) (by rfl)
  · exact in_vm _ _ _ _
  simp (maxSteps := 1000000) only [VL, vappend, ↓Gd_none, ↓Gd_t, ↓Gd_f, ev, ofValue, zipEnv, thenQ, blockQ, vfill, inOrder, toPss, toPs, toP, obound, keyOf, cellInts, elemsOf, nilV, extV, pickV, refs, refsL, isCell, cellsOf, strip1, gdV, pdOk, pdPush, pdTick, Back, cond_true, cond_false, if_true, if_false, forall_const, reduceIte, reduceCtorEq, Int.reduceLE, Int.reduceLT, Int.reduceToNat, Int.reduceNeg, Nat.reduceLT, Nat.reduceEqDiff, Nat.reduceAdd, Nat.reduceSub, Nat.reduceMul, Nat.reduceLeDiff]
  (repeat refine W_seq ?_)
  refine W_ret ?_
  try simp only [thenQ, blockQ]
  refine own_ret10 rfl ?_ (by rfl)
  simp only [get_cons, frz, vtup, Nat.reduceEqDiff, if_true, if_false, reduceIte]
end Go.Proofs.Ytijcmgfblpokhaa.Vm

/- The program's lists of places, on values. (Vm) -/
namespace Go.Proofs.Ytijcmgfblpokhaa.Vm
open Go Go.Proofs
def keyPl (c : Pl) : List Int := [c.x, c.y]
/-- the map of the places that were met -/
def Met (es : List (List Int × VV)) (l : List Pl) : Prop := ∀ c : Pl, assoc (keyPl c) es = if hasPl l c then some (vb true) else none
theorem Met.nil : Met [] [] := fun c => rfl
theorem keyPl_inj {a b : Pl} : keyPl a = keyPl b ↔ a = b := by
  cases a; cases b; simp [keyPl]
theorem Met.add {es : List (List Int × VV)} {l : List Pl} (h : Met es l) (c : Pl) : Met (assocSet (keyPl c) (vb true) es) (l ++ [c]) := fun d => by
  rw [assoc_set, h d]
  by_cases e : c = d
  · subst e; simp [hasPl]
  · have : ¬ keyPl c = keyPl d := fun q => e (keyPl_inj.1 q)
    have e' : ¬ d = c := fun q => e q.symm
    simp [this, hasPl, e']
structure CellSt where
  i : Nat
  es : List (List Int × VV)
  junk : List VObj
theorem cells_any_vm (h : Ha) (l : List Pl) (M : Mem) (w1 : 1 ≤ h.wide) (w2 : h.wide ≤ 1000) (d1 : 1 ≤ h.deep) (d2 : h.deep ≤ 1000) (hl : l.length ≤ 1000000) : VC Try.prog 78 [hallV h, plsV l] M (fun r M' => M' = M ∧ r = vi (cellsErr h l)) := by
  refine VC_own' T_ok (f := 78) (fn := Try.f78) (by kernel_rfl) rfl Try.ntmps78 (by rfl) (by rfl) ?_
  ((repeat refine W_seq ?_); refine W_region0 T_ok ?_)
  simp (maxSteps := 1000000) only [VL, vappend, ↓Gd_none, ↓Gd_t, ↓Gd_f, ev, ofValue, zipEnv, thenQ, blockQ, vfill, inOrder, toPss, toPs, toP, obound, keyOf, cellInts, elemsOf, nilV, extV, pickV, refs, refsL, isCell, cellsOf, strip1, gdV, pdOk, pdPush, pdTick, Back, cond_true, cond_false, if_true, if_false, forall_const, reduceIte, reduceCtorEq, Int.reduceLE, Int.reduceLT, Int.reduceToNat, Int.reduceNeg, Nat.reduceLT, Nat.reduceEqDiff, Nat.reduceAdd, Nat.reduceSub, Nat.reduceMul, Nat.reduceLeDiff]
  ((repeat refine W_seq ?_); refine W_region0 T_ok ?_)
  rcases Nat.lt_or_ge 24 l.length with h24 | h24
  · have k0 : ((24 : Int) < (l.length : Int)) = True := eq_true (by omega)
    simp (maxSteps := 1000000) only [VL, vappend, ↓Gd_none, ↓Gd_t, ↓Gd_f, ev, ofValue, zipEnv, thenQ, blockQ, vfill, inOrder, toPss, toPs, toP, obound, keyOf, cellInts, elemsOf, nilV, extV, pickV, refs, refsL, isCell, cellsOf, strip1, gdV, pdOk, pdPush, pdTick, Back, cond_true, cond_false, if_true, if_false, forall_const, reduceIte, reduceCtorEq, Int.reduceLE, Int.reduceLT, Int.reduceToNat, Int.reduceNeg, Nat.reduceLT, Nat.reduceEqDiff, Nat.reduceAdd, Nat.reduceSub, Nat.reduceMul, Nat.reduceLeDiff, k0]
    ((repeat refine W_seq ?_); refine W_cond (b := true) (by first | rfl | simp only [ev, get_cons, Nat.reduceEqDiff, if_true, if_false, reduceIte]) (fun _ => ?_) (fun h => by cases h))
    ((repeat refine W_seq ?_); refine W_region0 T_ok ?_)
    simp (maxSteps := 1000000) only [VL, vappend, ↓Gd_none, ↓Gd_t, ↓Gd_f, ev, ofValue, zipEnv, thenQ, blockQ, vfill, inOrder, toPss, toPs, toP, obound, keyOf, cellInts, elemsOf, nilV, extV, pickV, refs, refsL, isCell, cellsOf, strip1, gdV, pdOk, pdPush, pdTick, Back, cond_true, cond_false, if_true, if_false, forall_const, reduceIte, reduceCtorEq, Int.reduceLE, Int.reduceLT, Int.reduceToNat, Int.reduceNeg, Nat.reduceLT, Nat.reduceEqDiff, Nat.reduceAdd, Nat.reduceSub, Nat.reduceMul, Nat.reduceLeDiff]
    (repeat refine W_seq ?_)
    refine W_ret ?_
    try simp only [thenQ, blockQ]
    refine own_ret1 rfl ?_ (by rfl)
    simp only [get_cons, frz, vtup, Nat.reduceEqDiff, if_true, if_false, reduceIte]
    simp [cellsErr, h24]
  have k0 : ((24 : Int) < (l.length : Int)) = False := eq_false (by omega)
  simp (maxSteps := 1000000) only [VL, vappend, ↓Gd_none, ↓Gd_t, ↓Gd_f, ev, ofValue, zipEnv, thenQ, blockQ, vfill, inOrder, toPss, toPs, toP, obound, keyOf, cellInts, elemsOf, nilV, extV, pickV, refs, refsL, isCell, cellsOf, strip1, gdV, pdOk, pdPush, pdTick, Back, cond_true, cond_false, if_true, if_false, forall_const, reduceIte, reduceCtorEq, Int.reduceLE, Int.reduceLT, Int.reduceToNat, Int.reduceNeg, Nat.reduceLT, Nat.reduceEqDiff, Nat.reduceAdd, Nat.reduceSub, Nat.reduceMul, Nat.reduceLeDiff, k0]
  ((repeat refine W_seq ?_); refine W_cond (b := false) (by first | rfl | simp only [ev, get_cons, Nat.reduceEqDiff, if_true, if_false, reduceIte]) (fun h => by cases h) (fun _ => ?_))
  ((repeat refine W_seq ?_); refine W_skip ?_)
  simp (maxSteps := 1000000) only [VL, vappend, ↓Gd_none, ↓Gd_t, ↓Gd_f, ev, ofValue, zipEnv, thenQ, blockQ, vfill, inOrder, toPss, toPs, toP, obound, keyOf, cellInts, elemsOf, nilV, extV, pickV, refs, refsL, isCell, cellsOf, strip1, gdV, pdOk, pdPush, pdTick, Back, cond_true, cond_false, if_true, if_false, forall_const, reduceIte, reduceCtorEq, Int.reduceLE, Int.reduceLT, Int.reduceToNat, Int.reduceNeg, Nat.reduceLT, Nat.reduceEqDiff, Nat.reduceAdd, Nat.reduceSub, Nat.reduceMul, Nat.reduceLeDiff]
  ((repeat refine W_seq ?_); refine W_region0 T_ok ?_)
  simp (maxSteps := 1000000) only [VL, vappend, ↓Gd_none, ↓Gd_t, ↓Gd_f, ev, ofValue, zipEnv, thenQ, blockQ, vfill, inOrder, toPss, toPs, toP, obound, keyOf, cellInts, elemsOf, nilV, extV, pickV, refs, refsL, isCell, cellsOf, strip1, gdV, pdOk, pdPush, pdTick, Back, cond_true, cond_false, if_true, if_false, forall_const, reduceIte, reduceCtorEq, Int.reduceLE, Int.reduceLT, Int.reduceToNat, Int.reduceNeg, Nat.reduceLT, Nat.reduceEqDiff, Nat.reduceAdd, Nat.reduceSub, Nat.reduceMul, Nat.reduceLeDiff]
  ((repeat refine W_seq ?_); refine W_region0 T_ok ?_)
  simp (maxSteps := 1000000) only [VL, vappend, ↓Gd_none, ↓Gd_t, ↓Gd_f, ev, ofValue, zipEnv, thenQ, blockQ, vfill, inOrder, toPss, toPs, toP, obound, keyOf, cellInts, elemsOf, nilV, extV, pickV, refs, refsL, isCell, cellsOf, strip1, gdV, pdOk, pdPush, pdTick, Back, cond_true, cond_false, if_true, if_false, forall_const, reduceIte, reduceCtorEq, Int.reduceLE, Int.reduceLT, Int.reduceToNat, Int.reduceNeg, Nat.reduceLT, Nat.reduceEqDiff, Nat.reduceAdd, Nat.reduceSub, Nat.reduceMul, Nat.reduceLeDiff]
  ((repeat refine W_seq ?_); refine W_block ?_; (repeat refine W_seq ?_)); refine W_loopS (fun s : CellSt => [(0, hallV h), (1, plsV l), (2, VV.ptr M.H.length 0), (5, VV.mp (M.H.length + 1)), (12, plsV l), (13, vi l.length), (14, vi s.i)]) (fun s => ⟨M.H ++ (VObj.obj [vi h.wide, vi h.deep, plsV h.water, plsV h.shut, vi h.bay.x, vi h.bay.y, intsV h.bears, kisV h.kinds] :: VObj.mpo (.nums 2) s.es :: s.junk), M.lg⟩) (fun s => l.length - s.i) (fun s => s.i ≤ l.length ∧ firstErr (cellErr h l) s.i = 0 ∧ Met s.es (l.take s.i)) ⟨0, [], []⟩ ⟨Nat.zero_le _, rfl, Met.nil⟩ ⟨rfl, rfl, rfl, rfl, rfl, rfl, rfl, trivial⟩ rfl ?_
  rintro ⟨i, es, junk⟩ ⟨hi, hno, hm⟩
  simp only at hi hno hm
  have k1 : -9223372036854775808 ≤ (i : Int) + 1 ∧ (i : Int) + 1 < 9223372036854775808 := by omega
  ((repeat refine W_seq ?_); refine W_region0 T_ok ?_)
  rcases Nat.lt_or_ge i l.length with hlt | hge
  · have k2 : ((i : Int) < (l.length : Int)) = True := eq_true (by omega)
    have hx : l[i]? = some l[i] := List.getElem?_eq_getElem hlt
    have hx' := map_at (f := plP) hx
    generalize hc : l[i] = c at hx hx'
    simp (maxSteps := 1000000) only [VL, vappend, ↓Gd_none, ↓Gd_t, ↓Gd_f, ev, ofValue, zipEnv, thenQ, blockQ, vfill, inOrder, toPss, toPs, toP, obound, keyOf, cellInts, elemsOf, nilV, extV, pickV, refs, refsL, isCell, cellsOf, strip1, gdV, pdOk, pdPush, pdTick, Back, cond_true, cond_false, if_true, if_false, forall_const, reduceIte, reduceCtorEq, Int.reduceLE, Int.reduceLT, Int.reduceToNat, Int.reduceNeg, Nat.reduceLT, Nat.reduceEqDiff, Nat.reduceAdd, Nat.reduceSub, Nat.reduceMul, Nat.reduceLeDiff, k2]
    ((repeat refine W_seq ?_); refine W_cond (b := true) (by first | rfl | simp only [ev, get_cons, Nat.reduceEqDiff, if_true, if_false, reduceIte]) (fun _ => ?_) (fun h => by cases h))
    ((repeat refine W_seq ?_); refine W_skip ?_)
    simp (maxSteps := 1000000) only [VL, vappend, ↓Gd_none, ↓Gd_t, ↓Gd_f, ev, ofValue, zipEnv, thenQ, blockQ, vfill, inOrder, toPss, toPs, toP, obound, keyOf, cellInts, elemsOf, nilV, extV, pickV, refs, refsL, isCell, cellsOf, strip1, gdV, pdOk, pdPush, pdTick, Back, cond_true, cond_false, if_true, if_false, forall_const, reduceIte, reduceCtorEq, Int.reduceLE, Int.reduceLT, Int.reduceToNat, Int.reduceNeg, Nat.reduceLT, Nat.reduceEqDiff, Nat.reduceAdd, Nat.reduceSub, Nat.reduceMul, Nat.reduceLeDiff]
    ((repeat refine W_seq ?_); refine W_block ?_)
    ((repeat refine W_seq ?_); refine W_region0 T_ok ?_)
    simp (maxSteps := 1000000) only [VL, vappend, ↓Gd_none, ↓Gd_t, ↓Gd_f, ev, ofValue, zipEnv, thenQ, blockQ, vfill, inOrder, toPss, toPs, toP, obound, keyOf, cellInts, elemsOf, nilV, extV, pickV, refs, refsL, isCell, cellsOf, strip1, gdV, pdOk, pdPush, pdTick, Back, cond_true, cond_false, if_true, if_false, forall_const, reduceIte, reduceCtorEq, Int.reduceLE, Int.reduceLT, Int.reduceToNat, Int.reduceNeg, Nat.reduceLT, Nat.reduceEqDiff, Nat.reduceAdd, Nat.reduceSub, Nat.reduceMul, Nat.reduceLeDiff, hx']
    ((repeat refine W_seq ?_); refine W_block ?_)
    ((repeat refine W_seq ?_); refine W_region0 T_ok ?_)
    simp (maxSteps := 1000000) only [VL, vappend, ↓Gd_none, ↓Gd_t, ↓Gd_f, ev, ofValue, zipEnv, thenQ, blockQ, vfill, inOrder, toPss, toPs, toP, obound, keyOf, cellInts, elemsOf, nilV, extV, pickV, refs, refsL, isCell, cellsOf, strip1, gdV, pdOk, pdPush, pdTick, Back, cond_true, cond_false, if_true, if_false, forall_const, reduceIte, reduceCtorEq, Int.reduceLE, Int.reduceLT, Int.reduceToNat, Int.reduceNeg, Nat.reduceLT, Nat.reduceEqDiff, Nat.reduceAdd, Nat.reduceSub, Nat.reduceMul, Nat.reduceLeDiff]
    apply call_eq (f := 98) (fn := Try.f98) (by kernel_rfl) (by rfl)
    · exact place_vm h c _ w1 w2 d1 d2
    simp (maxSteps := 1000000) only [VL, vappend, ↓Gd_none, ↓Gd_t, ↓Gd_f, ev, ofValue, zipEnv, thenQ, blockQ, vfill, inOrder, toPss, toPs, toP, obound, keyOf, cellInts, elemsOf, nilV, extV, pickV, refs, refsL, isCell, cellsOf, strip1, gdV, pdOk, pdPush, pdTick, Back, cond_true, cond_false, if_true, if_false, forall_const, reduceIte, reduceCtorEq, Int.reduceLE, Int.reduceLT, Int.reduceToNat, Int.reduceNeg, Nat.reduceLT, Nat.reduceEqDiff, Nat.reduceAdd, Nat.reduceSub, Nat.reduceMul, Nat.reduceLeDiff]
    have hm' : assoc [c.x, c.y] es = if hasPl (l.take i) c then some (vb true) else none := hm c
    have hce : cellErr h l i = if !isPl h c then 3 else if hasPl (l.take i) c then 4 else 0 := by simp [cellErr, hx]
    cases hp : isPl h c
    · ((repeat refine W_seq ?_); refine W_cond (b := true) (by first | rfl | simp only [ev, get_cons, Nat.reduceEqDiff, if_true, if_false, reduceIte]) (fun _ => ?_) (fun h => by cases h))
      ((repeat refine W_seq ?_); refine W_region0 T_ok ?_)
      simp (maxSteps := 1000000) only [VL, vappend, ↓Gd_none, ↓Gd_t, ↓Gd_f, ev, ofValue, zipEnv, thenQ, blockQ, vfill, inOrder, toPss, toPs, toP, obound, keyOf, cellInts, elemsOf, nilV, extV, pickV, refs, refsL, isCell, cellsOf, strip1, gdV, pdOk, pdPush, pdTick, Back, cond_true, cond_false, if_true, if_false, forall_const, reduceIte, reduceCtorEq, Int.reduceLE, Int.reduceLT, Int.reduceToNat, Int.reduceNeg, Nat.reduceLT, Nat.reduceEqDiff, Nat.reduceAdd, Nat.reduceSub, Nat.reduceMul, Nat.reduceLeDiff]
      (repeat refine W_seq ?_)
      refine W_ret ?_
      try simp only [thenQ, blockQ]
      refine own_ret1 rfl ?_ (by rfl)
      simp only [get_cons, frz, vtup, Nat.reduceEqDiff, if_true, if_false, reduceIte]
      have hne : cellErr h l i ≠ 0 := by rw [hce, hp]; simp
      have := firstErr_hit hno hne hlt
      rw [cellsErr, if_neg (by omega), this, hce, hp]
      rfl
    · ((repeat refine W_seq ?_); refine W_cond (b := false) (by first | rfl | simp only [ev, get_cons, Nat.reduceEqDiff, if_true, if_false, reduceIte]) (fun h => by cases h) (fun _ => ?_))
      ((repeat refine W_seq ?_); refine W_region0 T_ok ?_)
      cases hq : hasPl (l.take i) c
      · rw [hq] at hm'
        simp only [Bool.false_eq_true, if_false] at hm'
        simp (maxSteps := 1000000) only [VL, vappend, ↓Gd_none, ↓Gd_t, ↓Gd_f, ev, ofValue, zipEnv, thenQ, blockQ, vfill, inOrder, toPss, toPs, toP, obound, keyOf, cellInts, elemsOf, nilV, extV, pickV, refs, refsL, isCell, cellsOf, strip1, gdV, pdOk, pdPush, pdTick, Back, cond_true, cond_false, if_true, if_false, forall_const, reduceIte, reduceCtorEq, Int.reduceLE, Int.reduceLT, Int.reduceToNat, Int.reduceNeg, Nat.reduceLT, Nat.reduceEqDiff, Nat.reduceAdd, Nat.reduceSub, Nat.reduceMul, Nat.reduceLeDiff, hm']
        ((repeat refine W_seq ?_); refine W_cond (b := false) (by first | rfl | simp only [ev, get_cons, Nat.reduceEqDiff, if_true, if_false, reduceIte]) (fun h => by cases h) (fun _ => ?_))
        ((repeat refine W_seq ?_); refine W_skip ?_)
        simp (maxSteps := 1000000) only [VL, vappend, ↓Gd_none, ↓Gd_t, ↓Gd_f, ev, ofValue, zipEnv, thenQ, blockQ, vfill, inOrder, toPss, toPs, toP, obound, keyOf, cellInts, elemsOf, nilV, extV, pickV, refs, refsL, isCell, cellsOf, strip1, gdV, pdOk, pdPush, pdTick, Back, cond_true, cond_false, if_true, if_false, forall_const, reduceIte, reduceCtorEq, Int.reduceLE, Int.reduceLT, Int.reduceToNat, Int.reduceNeg, Nat.reduceLT, Nat.reduceEqDiff, Nat.reduceAdd, Nat.reduceSub, Nat.reduceMul, Nat.reduceLeDiff]
        ((repeat refine W_seq ?_); refine W_region0 T_ok ?_)
        simp (maxSteps := 1000000) only [VL, vappend, ↓Gd_none, ↓Gd_t, ↓Gd_f, ev, ofValue, zipEnv, thenQ, blockQ, vfill, inOrder, toPss, toPs, toP, obound, keyOf, cellInts, elemsOf, nilV, extV, pickV, refs, refsL, isCell, cellsOf, strip1, gdV, pdOk, pdPush, pdTick, Back, cond_true, cond_false, if_true, if_false, forall_const, reduceIte, reduceCtorEq, Int.reduceLE, Int.reduceLT, Int.reduceToNat, Int.reduceNeg, Nat.reduceLT, Nat.reduceEqDiff, Nat.reduceAdd, Nat.reduceSub, Nat.reduceMul, Nat.reduceLeDiff]
        ((repeat refine W_seq ?_); refine W_region0 T_ok ?_)
        simp (maxSteps := 1000000) only [VL, vappend, ↓Gd_none, ↓Gd_t, ↓Gd_f, ev, ofValue, zipEnv, thenQ, blockQ, vfill, inOrder, toPss, toPs, toP, obound, keyOf, cellInts, elemsOf, nilV, extV, pickV, refs, refsL, isCell, cellsOf, strip1, gdV, pdOk, pdPush, pdTick, Back, cond_true, cond_false, if_true, if_false, forall_const, reduceIte, reduceCtorEq, Int.reduceLE, Int.reduceLT, Int.reduceToNat, Int.reduceNeg, Nat.reduceLT, Nat.reduceEqDiff, Nat.reduceAdd, Nat.reduceSub, Nat.reduceMul, Nat.reduceLeDiff, k1]
        refine LoopK.mk ⟨i + 1, assocSet (keyPl c) (vb true) es, junk ++ [VObj.obj [vi c.x, vi c.y]]⟩ (by simp only; omega) ⟨by simp only; omega, firstErr_step hno (by rw [hce, hp, hq]; rfl), ?_⟩ ⟨rfl, rfl, rfl, rfl, rfl, rfl, rfl, trivial⟩ rfl
        simp only
        rw [List.take_add_one, hx]
        exact hm.add c
      · rw [hq] at hm'
        simp only [if_true] at hm'
        simp (maxSteps := 1000000) only [VL, vappend, ↓Gd_none, ↓Gd_t, ↓Gd_f, ev, ofValue, zipEnv, thenQ, blockQ, vfill, inOrder, toPss, toPs, toP, obound, keyOf, cellInts, elemsOf, nilV, extV, pickV, refs, refsL, isCell, cellsOf, strip1, gdV, pdOk, pdPush, pdTick, Back, cond_true, cond_false, if_true, if_false, forall_const, reduceIte, reduceCtorEq, Int.reduceLE, Int.reduceLT, Int.reduceToNat, Int.reduceNeg, Nat.reduceLT, Nat.reduceEqDiff, Nat.reduceAdd, Nat.reduceSub, Nat.reduceMul, Nat.reduceLeDiff, hm']
        ((repeat refine W_seq ?_); refine W_cond (b := true) (by first | rfl | simp only [ev, get_cons, Nat.reduceEqDiff, if_true, if_false, reduceIte]) (fun _ => ?_) (fun h => by cases h))
        ((repeat refine W_seq ?_); refine W_region0 T_ok ?_)
        simp (maxSteps := 1000000) only [VL, vappend, ↓Gd_none, ↓Gd_t, ↓Gd_f, ev, ofValue, zipEnv, thenQ, blockQ, vfill, inOrder, toPss, toPs, toP, obound, keyOf, cellInts, elemsOf, nilV, extV, pickV, refs, refsL, isCell, cellsOf, strip1, gdV, pdOk, pdPush, pdTick, Back, cond_true, cond_false, if_true, if_false, forall_const, reduceIte, reduceCtorEq, Int.reduceLE, Int.reduceLT, Int.reduceToNat, Int.reduceNeg, Nat.reduceLT, Nat.reduceEqDiff, Nat.reduceAdd, Nat.reduceSub, Nat.reduceMul, Nat.reduceLeDiff]
        (repeat refine W_seq ?_)
        refine W_ret ?_
        try simp only [thenQ, blockQ]
        refine own_ret1 rfl ?_ (by rfl)
        simp only [get_cons, frz, vtup, Nat.reduceEqDiff, if_true, if_false, reduceIte]
        have hne : cellErr h l i ≠ 0 := by rw [hce, hp, hq]; simp
        have := firstErr_hit hno hne hlt
        rw [cellsErr, if_neg (by omega), this, hce, hp, hq]
        rfl
  · have k2 : ((i : Int) < (l.length : Int)) = False := eq_false (by omega)
    simp (maxSteps := 1000000) only [VL, vappend, ↓Gd_none, ↓Gd_t, ↓Gd_f, ev, ofValue, zipEnv, thenQ, blockQ, vfill, inOrder, toPss, toPs, toP, obound, keyOf, cellInts, elemsOf, nilV, extV, pickV, refs, refsL, isCell, cellsOf, strip1, gdV, pdOk, pdPush, pdTick, Back, cond_true, cond_false, if_true, if_false, forall_const, reduceIte, reduceCtorEq, Int.reduceLE, Int.reduceLT, Int.reduceToNat, Int.reduceNeg, Nat.reduceLT, Nat.reduceEqDiff, Nat.reduceAdd, Nat.reduceSub, Nat.reduceMul, Nat.reduceLeDiff, k2]
    ((repeat refine W_seq ?_); refine W_cond (b := false) (by first | rfl | simp only [ev, get_cons, Nat.reduceEqDiff, if_true, if_false, reduceIte]) (fun h => by cases h) (fun _ => ?_))
    ((repeat refine W_seq ?_); refine W_exit ?_)
    simp (maxSteps := 1000000) only [VL, vappend, ↓Gd_none, ↓Gd_t, ↓Gd_f, ev, ofValue, zipEnv, thenQ, blockQ, vfill, inOrder, toPss, toPs, toP, obound, keyOf, cellInts, elemsOf, nilV, extV, pickV, refs, refsL, isCell, cellsOf, strip1, gdV, pdOk, pdPush, pdTick, Back, cond_true, cond_false, if_true, if_false, forall_const, reduceIte, reduceCtorEq, Int.reduceLE, Int.reduceLT, Int.reduceToNat, Int.reduceNeg, Nat.reduceLT, Nat.reduceEqDiff, Nat.reduceAdd, Nat.reduceSub, Nat.reduceMul, Nat.reduceLeDiff]
    ((repeat refine W_seq ?_); refine W_region0 T_ok ?_)
    simp (maxSteps := 1000000) only [VL, vappend, ↓Gd_none, ↓Gd_t, ↓Gd_f, ev, ofValue, zipEnv, thenQ, blockQ, vfill, inOrder, toPss, toPs, toP, obound, keyOf, cellInts, elemsOf, nilV, extV, pickV, refs, refsL, isCell, cellsOf, strip1, gdV, pdOk, pdPush, pdTick, Back, cond_true, cond_false, if_true, if_false, forall_const, reduceIte, reduceCtorEq, Int.reduceLE, Int.reduceLT, Int.reduceToNat, Int.reduceNeg, Nat.reduceLT, Nat.reduceEqDiff, Nat.reduceAdd, Nat.reduceSub, Nat.reduceMul, Nat.reduceLeDiff]
    (repeat refine W_seq ?_)
    refine W_ret ?_
    try simp only [thenQ, blockQ]
    refine own_ret1 rfl ?_ (by rfl)
    simp only [get_cons, frz, vtup, Nat.reduceEqDiff, if_true, if_false, reduceIte]
    have : i = l.length := by omega
    subst this
    simp [cellsErr, hno, Nat.not_lt.2 h24]
end Go.Proofs.Ytijcmgfblpokhaa.Vm

/- The program's check of kinds, on values. (Vm) -/
namespace Go.Proofs.Ytijcmgfblpokhaa.Vm
open Go Go.Proofs
theorem away_call (n : Int) (M : Mem) : VCall Try.prog (.fn (.func 101) [] []) [vi n] M (fun r M' => M' = M ∧ r = vb (!inR n 0 9)) :=
  call_eq (f := 101) (fn := Try.f101) (by kernel_rfl) (by rfl) (args := [vi n]) (away_vm n M) ⟨rfl, rfl⟩
theorem bearsin_call (n : Int) (M : Mem) : VCall Try.prog (.fn (.func 81) [] []) [vi n] M (fun r M' => M' = M ∧ r = vb (!inR n 0 10000000)) :=
  call_eq (f := 81) (fn := Try.f81) (by kernel_rfl) (by rfl) (args := [vi n]) (bearsin_vm n M) ⟨rfl, rfl⟩
theorem kind_vm (h : Ha) (k : Ki) (M : Mem) (hl : k.away.length ≤ 1000000) (hk : h.kinds.length ≤ 1000000) : VC Try.prog 82 [hallV h, kiV k] M (fun r M' => M' = M ∧ r = vi (kindErr h k)) := by
  refine VC_own' T_ok (f := 82) (fn := Try.f82) (by kernel_rfl) rfl Try.ntmps82 (by rfl) (by rfl) ?_
  ((repeat refine W_seq ?_); refine W_region0 T_ok ?_)
  simp (maxSteps := 1000000) only [VL, vappend, ↓Gd_none, ↓Gd_t, ↓Gd_f, ev, ofValue, zipEnv, thenQ, blockQ, vfill, inOrder, toPss, toPs, toP, obound, keyOf, cellInts, elemsOf, nilV, extV, pickV, refs, refsL, isCell, cellsOf, strip1, gdV, pdOk, pdPush, pdTick, Back, cond_true, cond_false, if_true, if_false, forall_const, reduceIte, reduceCtorEq, Int.reduceLE, Int.reduceLT, Int.reduceToNat, Int.reduceNeg, Nat.reduceLT, Nat.reduceEqDiff, Nat.reduceAdd, Nat.reduceSub, Nat.reduceMul, Nat.reduceLeDiff]
  ((repeat refine W_seq ?_); refine W_block ?_)
  ((repeat refine W_seq ?_); refine W_region0 T_ok ?_)
  simp (maxSteps := 1000000) only [VL, vappend, ↓Gd_none, ↓Gd_t, ↓Gd_f, ev, ofValue, zipEnv, thenQ, blockQ, vfill, inOrder, toPss, toPs, toP, obound, keyOf, cellInts, elemsOf, nilV, extV, pickV, refs, refsL, isCell, cellsOf, strip1, gdV, pdOk, pdPush, pdTick, Back, cond_true, cond_false, if_true, if_false, forall_const, reduceIte, reduceCtorEq, Int.reduceLE, Int.reduceLT, Int.reduceToNat, Int.reduceNeg, Nat.reduceLT, Nat.reduceEqDiff, Nat.reduceAdd, Nat.reduceSub, Nat.reduceMul, Nat.reduceLeDiff]
  apply call_eq (f := 77) (fn := Try.f77) (by kernel_rfl) (by rfl)
  · exact in_vm _ _ _ _
  have e1 : kindErr h k = kindErr h k := rfl
  conv at e1 => rhs; unfold kindErr
  cases a1 : inR k.lo 0 1000000
  · rw [a1] at e1
    simp (maxSteps := 1000000) only [VL, vappend, ↓Gd_none, ↓Gd_t, ↓Gd_f, ev, ofValue, zipEnv, thenQ, blockQ, vfill, inOrder, toPss, toPs, toP, obound, keyOf, cellInts, elemsOf, nilV, extV, pickV, refs, refsL, isCell, cellsOf, strip1, gdV, pdOk, pdPush, pdTick, Back, cond_true, cond_false, if_true, if_false, forall_const, reduceIte, reduceCtorEq, Int.reduceLE, Int.reduceLT, Int.reduceToNat, Int.reduceNeg, Nat.reduceLT, Nat.reduceEqDiff, Nat.reduceAdd, Nat.reduceSub, Nat.reduceMul, Nat.reduceLeDiff]
    ((repeat refine W_seq ?_); refine W_cond (b := true) (by first | rfl | simp only [ev, get_cons, Nat.reduceEqDiff, if_true, if_false, reduceIte]) (fun _ => ?_) (fun h => by cases h))
    ((repeat refine W_seq ?_); refine W_skip ?_)
    simp (maxSteps := 1000000) only [VL, vappend, ↓Gd_none, ↓Gd_t, ↓Gd_f, ev, ofValue, zipEnv, thenQ, blockQ, vfill, inOrder, toPss, toPs, toP, obound, keyOf, cellInts, elemsOf, nilV, extV, pickV, refs, refsL, isCell, cellsOf, strip1, gdV, pdOk, pdPush, pdTick, Back, cond_true, cond_false, if_true, if_false, forall_const, reduceIte, reduceCtorEq, Int.reduceLE, Int.reduceLT, Int.reduceToNat, Int.reduceNeg, Nat.reduceLT, Nat.reduceEqDiff, Nat.reduceAdd, Nat.reduceSub, Nat.reduceMul, Nat.reduceLeDiff]
    ((repeat refine W_seq ?_); refine W_cond (b := true) (by first | rfl | simp only [ev, get_cons, Nat.reduceEqDiff, if_true, if_false, reduceIte]) (fun _ => ?_) (fun h => by cases h))
    ((repeat refine W_seq ?_); refine W_region0 T_ok ?_)
    simp (maxSteps := 1000000) only [VL, vappend, ↓Gd_none, ↓Gd_t, ↓Gd_f, ev, ofValue, zipEnv, thenQ, blockQ, vfill, inOrder, toPss, toPs, toP, obound, keyOf, cellInts, elemsOf, nilV, extV, pickV, refs, refsL, isCell, cellsOf, strip1, gdV, pdOk, pdPush, pdTick, Back, cond_true, cond_false, if_true, if_false, forall_const, reduceIte, reduceCtorEq, Int.reduceLE, Int.reduceLT, Int.reduceToNat, Int.reduceNeg, Nat.reduceLT, Nat.reduceEqDiff, Nat.reduceAdd, Nat.reduceSub, Nat.reduceMul, Nat.reduceLeDiff]
    (repeat refine W_seq ?_)
    refine W_ret ?_
    try simp only [thenQ, blockQ]
    refine own_ret1 rfl ?_ (by rfl)
    simp only [get_cons, frz, vtup, Nat.reduceEqDiff, if_true, if_false, reduceIte]
    rw [e1]; rfl
  rw [a1] at e1
  simp (maxSteps := 1000000) only [VL, vappend, ↓Gd_none, ↓Gd_t, ↓Gd_f, ev, ofValue, zipEnv, thenQ, blockQ, vfill, inOrder, toPss, toPs, toP, obound, keyOf, cellInts, elemsOf, nilV, extV, pickV, refs, refsL, isCell, cellsOf, strip1, gdV, pdOk, pdPush, pdTick, Back, cond_true, cond_false, if_true, if_false, forall_const, reduceIte, reduceCtorEq, Int.reduceLE, Int.reduceLT, Int.reduceToNat, Int.reduceNeg, Nat.reduceLT, Nat.reduceEqDiff, Nat.reduceAdd, Nat.reduceSub, Nat.reduceMul, Nat.reduceLeDiff]
  ((repeat refine W_seq ?_); refine W_cond (b := false) (by first | rfl | simp only [ev, get_cons, Nat.reduceEqDiff, if_true, if_false, reduceIte]) (fun h => by cases h) (fun _ => ?_))
  ((repeat refine W_seq ?_); refine W_region0 T_ok ?_)
  simp (maxSteps := 1000000) only [VL, vappend, ↓Gd_none, ↓Gd_t, ↓Gd_f, ev, ofValue, zipEnv, thenQ, blockQ, vfill, inOrder, toPss, toPs, toP, obound, keyOf, cellInts, elemsOf, nilV, extV, pickV, refs, refsL, isCell, cellsOf, strip1, gdV, pdOk, pdPush, pdTick, Back, cond_true, cond_false, if_true, if_false, forall_const, reduceIte, reduceCtorEq, Int.reduceLE, Int.reduceLT, Int.reduceToNat, Int.reduceNeg, Nat.reduceLT, Nat.reduceEqDiff, Nat.reduceAdd, Nat.reduceSub, Nat.reduceMul, Nat.reduceLeDiff]
  apply call_eq (f := 77) (fn := Try.f77) (by kernel_rfl) (by rfl)
  · exact in_vm _ _ _ _
  cases a2 : inR k.hi 0 1000000
  · rw [a2] at e1
    simp (maxSteps := 1000000) only [VL, vappend, ↓Gd_none, ↓Gd_t, ↓Gd_f, ev, ofValue, zipEnv, thenQ, blockQ, vfill, inOrder, toPss, toPs, toP, obound, keyOf, cellInts, elemsOf, nilV, extV, pickV, refs, refsL, isCell, cellsOf, strip1, gdV, pdOk, pdPush, pdTick, Back, cond_true, cond_false, if_true, if_false, forall_const, reduceIte, reduceCtorEq, Int.reduceLE, Int.reduceLT, Int.reduceToNat, Int.reduceNeg, Nat.reduceLT, Nat.reduceEqDiff, Nat.reduceAdd, Nat.reduceSub, Nat.reduceMul, Nat.reduceLeDiff]
    ((repeat refine W_seq ?_); refine W_cond (b := true) (by first | rfl | simp only [ev, get_cons, Nat.reduceEqDiff, if_true, if_false, reduceIte]) (fun _ => ?_) (fun h => by cases h))
    ((repeat refine W_seq ?_); refine W_region0 T_ok ?_)
    simp (maxSteps := 1000000) only [VL, vappend, ↓Gd_none, ↓Gd_t, ↓Gd_f, ev, ofValue, zipEnv, thenQ, blockQ, vfill, inOrder, toPss, toPs, toP, obound, keyOf, cellInts, elemsOf, nilV, extV, pickV, refs, refsL, isCell, cellsOf, strip1, gdV, pdOk, pdPush, pdTick, Back, cond_true, cond_false, if_true, if_false, forall_const, reduceIte, reduceCtorEq, Int.reduceLE, Int.reduceLT, Int.reduceToNat, Int.reduceNeg, Nat.reduceLT, Nat.reduceEqDiff, Nat.reduceAdd, Nat.reduceSub, Nat.reduceMul, Nat.reduceLeDiff]
    (repeat refine W_seq ?_)
    refine W_ret ?_
    try simp only [thenQ, blockQ]
    refine own_ret1 rfl ?_ (by rfl)
    simp only [get_cons, frz, vtup, Nat.reduceEqDiff, if_true, if_false, reduceIte]
    rw [e1]; rfl
  rw [a2] at e1
  simp (maxSteps := 1000000) only [VL, vappend, ↓Gd_none, ↓Gd_t, ↓Gd_f, ev, ofValue, zipEnv, thenQ, blockQ, vfill, inOrder, toPss, toPs, toP, obound, keyOf, cellInts, elemsOf, nilV, extV, pickV, refs, refsL, isCell, cellsOf, strip1, gdV, pdOk, pdPush, pdTick, Back, cond_true, cond_false, if_true, if_false, forall_const, reduceIte, reduceCtorEq, Int.reduceLE, Int.reduceLT, Int.reduceToNat, Int.reduceNeg, Nat.reduceLT, Nat.reduceEqDiff, Nat.reduceAdd, Nat.reduceSub, Nat.reduceMul, Nat.reduceLeDiff]
  ((repeat refine W_seq ?_); refine W_cond (b := false) (by first | rfl | simp only [ev, get_cons, Nat.reduceEqDiff, if_true, if_false, reduceIte]) (fun h => by cases h) (fun _ => ?_))
  ((repeat refine W_seq ?_); refine W_region0 T_ok ?_)
  by_cases a3 : k.hi < k.lo
  · simp (maxSteps := 1000000) only [VL, vappend, ↓Gd_none, ↓Gd_t, ↓Gd_f, ev, ofValue, zipEnv, thenQ, blockQ, vfill, inOrder, toPss, toPs, toP, obound, keyOf, cellInts, elemsOf, nilV, extV, pickV, refs, refsL, isCell, cellsOf, strip1, gdV, pdOk, pdPush, pdTick, Back, cond_true, cond_false, if_true, if_false, forall_const, reduceIte, reduceCtorEq, Int.reduceLE, Int.reduceLT, Int.reduceToNat, Int.reduceNeg, Nat.reduceLT, Nat.reduceEqDiff, Nat.reduceAdd, Nat.reduceSub, Nat.reduceMul, Nat.reduceLeDiff, a3]
    ((repeat refine W_seq ?_); refine W_cond (b := true) (by first | rfl | simp only [ev, get_cons, Nat.reduceEqDiff, if_true, if_false, reduceIte]) (fun _ => ?_) (fun h => by cases h))
    ((repeat refine W_seq ?_); refine W_region0 T_ok ?_)
    simp (maxSteps := 1000000) only [VL, vappend, ↓Gd_none, ↓Gd_t, ↓Gd_f, ev, ofValue, zipEnv, thenQ, blockQ, vfill, inOrder, toPss, toPs, toP, obound, keyOf, cellInts, elemsOf, nilV, extV, pickV, refs, refsL, isCell, cellsOf, strip1, gdV, pdOk, pdPush, pdTick, Back, cond_true, cond_false, if_true, if_false, forall_const, reduceIte, reduceCtorEq, Int.reduceLE, Int.reduceLT, Int.reduceToNat, Int.reduceNeg, Nat.reduceLT, Nat.reduceEqDiff, Nat.reduceAdd, Nat.reduceSub, Nat.reduceMul, Nat.reduceLeDiff]
    (repeat refine W_seq ?_)
    refine W_ret ?_
    try simp only [thenQ, blockQ]
    refine own_ret1 rfl ?_ (by rfl)
    simp only [get_cons, frz, vtup, Nat.reduceEqDiff, if_true, if_false, reduceIte]
    simp [e1, a3]
  simp (maxSteps := 1000000) only [VL, vappend, ↓Gd_none, ↓Gd_t, ↓Gd_f, ev, ofValue, zipEnv, thenQ, blockQ, vfill, inOrder, toPss, toPs, toP, obound, keyOf, cellInts, elemsOf, nilV, extV, pickV, refs, refsL, isCell, cellsOf, strip1, gdV, pdOk, pdPush, pdTick, Back, cond_true, cond_false, if_true, if_false, forall_const, reduceIte, reduceCtorEq, Int.reduceLE, Int.reduceLT, Int.reduceToNat, Int.reduceNeg, Nat.reduceLT, Nat.reduceEqDiff, Nat.reduceAdd, Nat.reduceSub, Nat.reduceMul, Nat.reduceLeDiff, a3]
  ((repeat refine W_seq ?_); refine W_cond (b := false) (by first | rfl | simp only [ev, get_cons, Nat.reduceEqDiff, if_true, if_false, reduceIte]) (fun h => by cases h) (fun _ => ?_))
  ((repeat refine W_seq ?_); refine W_region0 T_ok ?_)
  by_cases a4 : k.away.length = h.kinds.length
  rotate_left
  · have a4' : ((k.away.length : Int) = (h.kinds.length : Int)) = False := eq_false (by omega)
    simp (maxSteps := 1000000) only [VL, vappend, ↓Gd_none, ↓Gd_t, ↓Gd_f, ev, ofValue, zipEnv, thenQ, blockQ, vfill, inOrder, toPss, toPs, toP, obound, keyOf, cellInts, elemsOf, nilV, extV, pickV, refs, refsL, isCell, cellsOf, strip1, gdV, pdOk, pdPush, pdTick, Back, cond_true, cond_false, if_true, if_false, forall_const, reduceIte, reduceCtorEq, Int.reduceLE, Int.reduceLT, Int.reduceToNat, Int.reduceNeg, Nat.reduceLT, Nat.reduceEqDiff, Nat.reduceAdd, Nat.reduceSub, Nat.reduceMul, Nat.reduceLeDiff, a4']
    ((repeat refine W_seq ?_); refine W_cond (b := true) (by first | rfl | simp only [ev, get_cons, Nat.reduceEqDiff, if_true, if_false, reduceIte]) (fun _ => ?_) (fun h => by cases h))
    ((repeat refine W_seq ?_); refine W_region0 T_ok ?_)
    simp (maxSteps := 1000000) only [VL, vappend, ↓Gd_none, ↓Gd_t, ↓Gd_f, ev, ofValue, zipEnv, thenQ, blockQ, vfill, inOrder, toPss, toPs, toP, obound, keyOf, cellInts, elemsOf, nilV, extV, pickV, refs, refsL, isCell, cellsOf, strip1, gdV, pdOk, pdPush, pdTick, Back, cond_true, cond_false, if_true, if_false, forall_const, reduceIte, reduceCtorEq, Int.reduceLE, Int.reduceLT, Int.reduceToNat, Int.reduceNeg, Nat.reduceLT, Nat.reduceEqDiff, Nat.reduceAdd, Nat.reduceSub, Nat.reduceMul, Nat.reduceLeDiff]
    (repeat refine W_seq ?_)
    refine W_ret ?_
    try simp only [thenQ, blockQ]
    refine own_ret1 rfl ?_ (by rfl)
    simp only [get_cons, frz, vtup, Nat.reduceEqDiff, if_true, if_false, reduceIte]
    simp [e1, a3, a4]
  have a4' : ((k.away.length : Int) = (h.kinds.length : Int)) = True := eq_true (by omega)
  simp (maxSteps := 1000000) only [VL, vappend, ↓Gd_none, ↓Gd_t, ↓Gd_f, ev, ofValue, zipEnv, thenQ, blockQ, vfill, inOrder, toPss, toPs, toP, obound, keyOf, cellInts, elemsOf, nilV, extV, pickV, refs, refsL, isCell, cellsOf, strip1, gdV, pdOk, pdPush, pdTick, Back, cond_true, cond_false, if_true, if_false, forall_const, reduceIte, reduceCtorEq, Int.reduceLE, Int.reduceLT, Int.reduceToNat, Int.reduceNeg, Nat.reduceLT, Nat.reduceEqDiff, Nat.reduceAdd, Nat.reduceSub, Nat.reduceMul, Nat.reduceLeDiff, a4']
  ((repeat refine W_seq ?_); refine W_cond (b := false) (by first | rfl | simp only [ev, get_cons, Nat.reduceEqDiff, if_true, if_false, reduceIte]) (fun h => by cases h) (fun _ => ?_))
  ((repeat refine W_seq ?_); refine W_region0 T_ok ?_)
  simp (maxSteps := 1000000) only [VL, vappend, ↓Gd_none, ↓Gd_t, ↓Gd_f, ev, ofValue, zipEnv, thenQ, blockQ, vfill, inOrder, toPss, toPs, toP, obound, keyOf, cellInts, elemsOf, nilV, extV, pickV, refs, refsL, isCell, cellsOf, strip1, gdV, pdOk, pdPush, pdTick, Back, cond_true, cond_false, if_true, if_false, forall_const, reduceIte, reduceCtorEq, Int.reduceLE, Int.reduceLT, Int.reduceToNat, Int.reduceNeg, Nat.reduceLT, Nat.reduceEqDiff, Nat.reduceAdd, Nat.reduceSub, Nat.reduceMul, Nat.reduceLeDiff]
  apply call_eq (f := 80) (fn := Try.f80) (by kernel_rfl) (by rfl)
  · exact containsints_vm _ k.away (fun n => !inR n 0 9) _ hl rfl (fun x _ => away_call x _)
  cases a5 : k.away.any (fun n => !inR n 0 9)
  rotate_left
  · simp (maxSteps := 1000000) only [VL, vappend, ↓Gd_none, ↓Gd_t, ↓Gd_f, ev, ofValue, zipEnv, thenQ, blockQ, vfill, inOrder, toPss, toPs, toP, obound, keyOf, cellInts, elemsOf, nilV, extV, pickV, refs, refsL, isCell, cellsOf, strip1, gdV, pdOk, pdPush, pdTick, Back, cond_true, cond_false, if_true, if_false, forall_const, reduceIte, reduceCtorEq, Int.reduceLE, Int.reduceLT, Int.reduceToNat, Int.reduceNeg, Nat.reduceLT, Nat.reduceEqDiff, Nat.reduceAdd, Nat.reduceSub, Nat.reduceMul, Nat.reduceLeDiff]
    ((repeat refine W_seq ?_); refine W_cond (b := true) (by first | rfl | simp only [ev, get_cons, Nat.reduceEqDiff, if_true, if_false, reduceIte]) (fun _ => ?_) (fun h => by cases h))
    ((repeat refine W_seq ?_); refine W_skip ?_)
    simp (maxSteps := 1000000) only [VL, vappend, ↓Gd_none, ↓Gd_t, ↓Gd_f, ev, ofValue, zipEnv, thenQ, blockQ, vfill, inOrder, toPss, toPs, toP, obound, keyOf, cellInts, elemsOf, nilV, extV, pickV, refs, refsL, isCell, cellsOf, strip1, gdV, pdOk, pdPush, pdTick, Back, cond_true, cond_false, if_true, if_false, forall_const, reduceIte, reduceCtorEq, Int.reduceLE, Int.reduceLT, Int.reduceToNat, Int.reduceNeg, Nat.reduceLT, Nat.reduceEqDiff, Nat.reduceAdd, Nat.reduceSub, Nat.reduceMul, Nat.reduceLeDiff]
    ((repeat refine W_seq ?_); refine W_cond (b := true) (by first | rfl | simp only [ev, get_cons, Nat.reduceEqDiff, if_true, if_false, reduceIte]) (fun _ => ?_) (fun h => by cases h))
    ((repeat refine W_seq ?_); refine W_region0 T_ok ?_)
    simp (maxSteps := 1000000) only [VL, vappend, ↓Gd_none, ↓Gd_t, ↓Gd_f, ev, ofValue, zipEnv, thenQ, blockQ, vfill, inOrder, toPss, toPs, toP, obound, keyOf, cellInts, elemsOf, nilV, extV, pickV, refs, refsL, isCell, cellsOf, strip1, gdV, pdOk, pdPush, pdTick, Back, cond_true, cond_false, if_true, if_false, forall_const, reduceIte, reduceCtorEq, Int.reduceLE, Int.reduceLT, Int.reduceToNat, Int.reduceNeg, Nat.reduceLT, Nat.reduceEqDiff, Nat.reduceAdd, Nat.reduceSub, Nat.reduceMul, Nat.reduceLeDiff]
    (repeat refine W_seq ?_)
    refine W_ret ?_
    try simp only [thenQ, blockQ]
    refine own_ret1 rfl ?_ (by rfl)
    simp only [get_cons, frz, vtup, Nat.reduceEqDiff, if_true, if_false, reduceIte]
    rw [e1, a5]
    simp [a3, a4]
  simp (maxSteps := 1000000) only [VL, vappend, ↓Gd_none, ↓Gd_t, ↓Gd_f, ev, ofValue, zipEnv, thenQ, blockQ, vfill, inOrder, toPss, toPs, toP, obound, keyOf, cellInts, elemsOf, nilV, extV, pickV, refs, refsL, isCell, cellsOf, strip1, gdV, pdOk, pdPush, pdTick, Back, cond_true, cond_false, if_true, if_false, forall_const, reduceIte, reduceCtorEq, Int.reduceLE, Int.reduceLT, Int.reduceToNat, Int.reduceNeg, Nat.reduceLT, Nat.reduceEqDiff, Nat.reduceAdd, Nat.reduceSub, Nat.reduceMul, Nat.reduceLeDiff]
  ((repeat refine W_seq ?_); refine W_cond (b := false) (by first | rfl | simp only [ev, get_cons, Nat.reduceEqDiff, if_true, if_false, reduceIte]) (fun h => by cases h) (fun _ => ?_))
  ((repeat refine W_seq ?_); refine W_region0 T_ok ?_)
  simp (maxSteps := 1000000) only [VL, vappend, ↓Gd_none, ↓Gd_t, ↓Gd_f, ev, ofValue, zipEnv, thenQ, blockQ, vfill, inOrder, toPss, toPs, toP, obound, keyOf, cellInts, elemsOf, nilV, extV, pickV, refs, refsL, isCell, cellsOf, strip1, gdV, pdOk, pdPush, pdTick, Back, cond_true, cond_false, if_true, if_false, forall_const, reduceIte, reduceCtorEq, Int.reduceLE, Int.reduceLT, Int.reduceToNat, Int.reduceNeg, Nat.reduceLT, Nat.reduceEqDiff, Nat.reduceAdd, Nat.reduceSub, Nat.reduceMul, Nat.reduceLeDiff]
  apply call_eq (f := 77) (fn := Try.f77) (by kernel_rfl) (by rfl)
  · exact in_vm _ _ _ _
  cases a6 : inR k.rent 0 1000000
  · simp (maxSteps := 1000000) only [VL, vappend, ↓Gd_none, ↓Gd_t, ↓Gd_f, ev, ofValue, zipEnv, thenQ, blockQ, vfill, inOrder, toPss, toPs, toP, obound, keyOf, cellInts, elemsOf, nilV, extV, pickV, refs, refsL, isCell, cellsOf, strip1, gdV, pdOk, pdPush, pdTick, Back, cond_true, cond_false, if_true, if_false, forall_const, reduceIte, reduceCtorEq, Int.reduceLE, Int.reduceLT, Int.reduceToNat, Int.reduceNeg, Nat.reduceLT, Nat.reduceEqDiff, Nat.reduceAdd, Nat.reduceSub, Nat.reduceMul, Nat.reduceLeDiff]
    ((repeat refine W_seq ?_); refine W_cond (b := true) (by first | rfl | simp only [ev, get_cons, Nat.reduceEqDiff, if_true, if_false, reduceIte]) (fun _ => ?_) (fun h => by cases h))
    ((repeat refine W_seq ?_); refine W_skip ?_)
    simp (maxSteps := 1000000) only [VL, vappend, ↓Gd_none, ↓Gd_t, ↓Gd_f, ev, ofValue, zipEnv, thenQ, blockQ, vfill, inOrder, toPss, toPs, toP, obound, keyOf, cellInts, elemsOf, nilV, extV, pickV, refs, refsL, isCell, cellsOf, strip1, gdV, pdOk, pdPush, pdTick, Back, cond_true, cond_false, if_true, if_false, forall_const, reduceIte, reduceCtorEq, Int.reduceLE, Int.reduceLT, Int.reduceToNat, Int.reduceNeg, Nat.reduceLT, Nat.reduceEqDiff, Nat.reduceAdd, Nat.reduceSub, Nat.reduceMul, Nat.reduceLeDiff]
    ((repeat refine W_seq ?_); refine W_cond (b := true) (by first | rfl | simp only [ev, get_cons, Nat.reduceEqDiff, if_true, if_false, reduceIte]) (fun _ => ?_) (fun h => by cases h))
    ((repeat refine W_seq ?_); refine W_region0 T_ok ?_)
    simp (maxSteps := 1000000) only [VL, vappend, ↓Gd_none, ↓Gd_t, ↓Gd_f, ev, ofValue, zipEnv, thenQ, blockQ, vfill, inOrder, toPss, toPs, toP, obound, keyOf, cellInts, elemsOf, nilV, extV, pickV, refs, refsL, isCell, cellsOf, strip1, gdV, pdOk, pdPush, pdTick, Back, cond_true, cond_false, if_true, if_false, forall_const, reduceIte, reduceCtorEq, Int.reduceLE, Int.reduceLT, Int.reduceToNat, Int.reduceNeg, Nat.reduceLT, Nat.reduceEqDiff, Nat.reduceAdd, Nat.reduceSub, Nat.reduceMul, Nat.reduceLeDiff]
    (repeat refine W_seq ?_)
    refine W_ret ?_
    try simp only [thenQ, blockQ]
    refine own_ret1 rfl ?_ (by rfl)
    simp only [get_cons, frz, vtup, Nat.reduceEqDiff, if_true, if_false, reduceIte]
    rw [e1, a5, a6]
    simp [a3, a4]
  simp (maxSteps := 1000000) only [VL, vappend, ↓Gd_none, ↓Gd_t, ↓Gd_f, ev, ofValue, zipEnv, thenQ, blockQ, vfill, inOrder, toPss, toPs, toP, obound, keyOf, cellInts, elemsOf, nilV, extV, pickV, refs, refsL, isCell, cellsOf, strip1, gdV, pdOk, pdPush, pdTick, Back, cond_true, cond_false, if_true, if_false, forall_const, reduceIte, reduceCtorEq, Int.reduceLE, Int.reduceLT, Int.reduceToNat, Int.reduceNeg, Nat.reduceLT, Nat.reduceEqDiff, Nat.reduceAdd, Nat.reduceSub, Nat.reduceMul, Nat.reduceLeDiff]
  ((repeat refine W_seq ?_); refine W_cond (b := false) (by first | rfl | simp only [ev, get_cons, Nat.reduceEqDiff, if_true, if_false, reduceIte]) (fun h => by cases h) (fun _ => ?_))
  ((repeat refine W_seq ?_); refine W_region0 T_ok ?_)
  simp (maxSteps := 1000000) only [VL, vappend, ↓Gd_none, ↓Gd_t, ↓Gd_f, ev, ofValue, zipEnv, thenQ, blockQ, vfill, inOrder, toPss, toPs, toP, obound, keyOf, cellInts, elemsOf, nilV, extV, pickV, refs, refsL, isCell, cellsOf, strip1, gdV, pdOk, pdPush, pdTick, Back, cond_true, cond_false, if_true, if_false, forall_const, reduceIte, reduceCtorEq, Int.reduceLE, Int.reduceLT, Int.reduceToNat, Int.reduceNeg, Nat.reduceLT, Nat.reduceEqDiff, Nat.reduceAdd, Nat.reduceSub, Nat.reduceMul, Nat.reduceLeDiff]
  apply call_eq (f := 77) (fn := Try.f77) (by kernel_rfl) (by rfl)
  · exact in_vm _ _ _ _
  cases a7 : inR k.most 0 24
  · simp (maxSteps := 1000000) only [VL, vappend, ↓Gd_none, ↓Gd_t, ↓Gd_f, ev, ofValue, zipEnv, thenQ, blockQ, vfill, inOrder, toPss, toPs, toP, obound, keyOf, cellInts, elemsOf, nilV, extV, pickV, refs, refsL, isCell, cellsOf, strip1, gdV, pdOk, pdPush, pdTick, Back, cond_true, cond_false, if_true, if_false, forall_const, reduceIte, reduceCtorEq, Int.reduceLE, Int.reduceLT, Int.reduceToNat, Int.reduceNeg, Nat.reduceLT, Nat.reduceEqDiff, Nat.reduceAdd, Nat.reduceSub, Nat.reduceMul, Nat.reduceLeDiff]
    ((repeat refine W_seq ?_); refine W_cond (b := true) (by first | rfl | simp only [ev, get_cons, Nat.reduceEqDiff, if_true, if_false, reduceIte]) (fun _ => ?_) (fun h => by cases h))
    ((repeat refine W_seq ?_); refine W_region0 T_ok ?_)
    simp (maxSteps := 1000000) only [VL, vappend, ↓Gd_none, ↓Gd_t, ↓Gd_f, ev, ofValue, zipEnv, thenQ, blockQ, vfill, inOrder, toPss, toPs, toP, obound, keyOf, cellInts, elemsOf, nilV, extV, pickV, refs, refsL, isCell, cellsOf, strip1, gdV, pdOk, pdPush, pdTick, Back, cond_true, cond_false, if_true, if_false, forall_const, reduceIte, reduceCtorEq, Int.reduceLE, Int.reduceLT, Int.reduceToNat, Int.reduceNeg, Nat.reduceLT, Nat.reduceEqDiff, Nat.reduceAdd, Nat.reduceSub, Nat.reduceMul, Nat.reduceLeDiff]
    (repeat refine W_seq ?_)
    refine W_ret ?_
    try simp only [thenQ, blockQ]
    refine own_ret1 rfl ?_ (by rfl)
    simp only [get_cons, frz, vtup, Nat.reduceEqDiff, if_true, if_false, reduceIte]
    rw [e1, a5, a6, a7]
    simp [a3, a4]
  simp (maxSteps := 1000000) only [VL, vappend, ↓Gd_none, ↓Gd_t, ↓Gd_f, ev, ofValue, zipEnv, thenQ, blockQ, vfill, inOrder, toPss, toPs, toP, obound, keyOf, cellInts, elemsOf, nilV, extV, pickV, refs, refsL, isCell, cellsOf, strip1, gdV, pdOk, pdPush, pdTick, Back, cond_true, cond_false, if_true, if_false, forall_const, reduceIte, reduceCtorEq, Int.reduceLE, Int.reduceLT, Int.reduceToNat, Int.reduceNeg, Nat.reduceLT, Nat.reduceEqDiff, Nat.reduceAdd, Nat.reduceSub, Nat.reduceMul, Nat.reduceLeDiff]
  ((repeat refine W_seq ?_); refine W_cond (b := false) (by first | rfl | simp only [ev, get_cons, Nat.reduceEqDiff, if_true, if_false, reduceIte]) (fun h => by cases h) (fun _ => ?_))
  ((repeat refine W_seq ?_); refine W_skip ?_)
  simp (maxSteps := 1000000) only [VL, vappend, ↓Gd_none, ↓Gd_t, ↓Gd_f, ev, ofValue, zipEnv, thenQ, blockQ, vfill, inOrder, toPss, toPs, toP, obound, keyOf, cellInts, elemsOf, nilV, extV, pickV, refs, refsL, isCell, cellsOf, strip1, gdV, pdOk, pdPush, pdTick, Back, cond_true, cond_false, if_true, if_false, forall_const, reduceIte, reduceCtorEq, Int.reduceLE, Int.reduceLT, Int.reduceToNat, Int.reduceNeg, Nat.reduceLT, Nat.reduceEqDiff, Nat.reduceAdd, Nat.reduceSub, Nat.reduceMul, Nat.reduceLeDiff]
  ((repeat refine W_seq ?_); refine W_region0 T_ok ?_)
  simp (maxSteps := 1000000) only [VL, vappend, ↓Gd_none, ↓Gd_t, ↓Gd_f, ev, ofValue, zipEnv, thenQ, blockQ, vfill, inOrder, toPss, toPs, toP, obound, keyOf, cellInts, elemsOf, nilV, extV, pickV, refs, refsL, isCell, cellsOf, strip1, gdV, pdOk, pdPush, pdTick, Back, cond_true, cond_false, if_true, if_false, forall_const, reduceIte, reduceCtorEq, Int.reduceLE, Int.reduceLT, Int.reduceToNat, Int.reduceNeg, Nat.reduceLT, Nat.reduceEqDiff, Nat.reduceAdd, Nat.reduceSub, Nat.reduceMul, Nat.reduceLeDiff]
  (repeat refine W_seq ?_)
  refine W_ret ?_
  try simp only [thenQ, blockQ]
  refine own_ret1 rfl ?_ (by rfl)
  simp only [get_cons, frz, vtup, Nat.reduceEqDiff, if_true, if_false, reduceIte]
  rw [e1, a5, a6, a7]
  simp [a3, a4]
end Go.Proofs.Ytijcmgfblpokhaa.Vm
