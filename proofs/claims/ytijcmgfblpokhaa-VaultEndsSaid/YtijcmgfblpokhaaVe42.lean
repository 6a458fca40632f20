/- VaultEnds answers true for every list of numbers. Part 42 of its proof; no conditions. -/
import Derived.Test.YtijcmgfblpokhaaVe41
set_option linter.unusedVariables false
set_option linter.unusedSimpArgs false
/- The reference's checks of kinds and halls, on values. (Vm) -/
namespace Go.Proofs.Ytijcmgfblpokhaa.Vm
open Go Go.Proofs
theorem checkKind_v (h : Ha) (k : Ki) (M : Mem) (hl : k.away.length ≤ 1000000) (hk : h.kinds.length ≤ 1000000) : VC Try.prog 56 [hallV h, kiV k] M (fun r M' => M' = M ∧ r = vi (kindErr h k)) := by
  have e1 : kindErr h k = kindErr h k := rfl
  conv at e1 => rhs; unfold kindErr
  refine VC_own' T_ok (f := 56) (fn := Try.f56) (by kernel_rfl) rfl Try.ntmps56 (by rfl) (by rfl) ?_
  ((repeat refine W_seq ?_); refine W_region0 T_ok ?_)
  simp (maxSteps := 1000000) only [VL, vappend, ↓Gd_none, ↓Gd_t, ↓Gd_f, ev, ofValue, zipEnv, thenQ, blockQ, vfill, inOrder, toPss, toPs, toP, obound, keyOf, cellInts, elemsOf, nilV, extV, pickV, refs, refsL, isCell, cellsOf, strip1, gdV, pdOk, pdPush, pdTick, Back, cond_true, cond_false, if_true, if_false, forall_const, reduceIte, reduceCtorEq, Int.reduceLE, Int.reduceLT, Int.reduceToNat, Int.reduceNeg, Nat.reduceLT, Nat.reduceEqDiff, Nat.reduceAdd, Nat.reduceSub, Nat.reduceMul, Nat.reduceLeDiff]
  ((repeat refine W_seq ?_); refine W_region0 T_ok ?_)
  simp (maxSteps := 1000000) only [VL, vappend, ↓Gd_none, ↓Gd_t, ↓Gd_f, ev, ofValue, zipEnv, thenQ, blockQ, vfill, inOrder, toPss, toPs, toP, obound, keyOf, cellInts, elemsOf, nilV, extV, pickV, refs, refsL, isCell, cellsOf, strip1, gdV, pdOk, pdPush, pdTick, Back, cond_true, cond_false, if_true, if_false, forall_const, reduceIte, reduceCtorEq, Int.reduceLE, Int.reduceLT, Int.reduceToNat, Int.reduceNeg, Nat.reduceLT, Nat.reduceEqDiff, Nat.reduceAdd, Nat.reduceSub, Nat.reduceMul, Nat.reduceLeDiff]
  apply call_eq (f := 54) (fn := Try.f54) (by kernel_rfl) (by rfl)
  · exact within_v _ _ _ _
  cases a1 : inR k.lo 0 1000000
  · rw [a1] at e1
    simp (maxSteps := 1000000) only [VL, vappend, ↓Gd_none, ↓Gd_t, ↓Gd_f, ev, ofValue, zipEnv, thenQ, blockQ, vfill, inOrder, toPss, toPs, toP, obound, keyOf, cellInts, elemsOf, nilV, extV, pickV, refs, refsL, isCell, cellsOf, strip1, gdV, pdOk, pdPush, pdTick, Back, cond_true, cond_false, if_true, if_false, forall_const, reduceIte, reduceCtorEq, Int.reduceLE, Int.reduceLT, Int.reduceToNat, Int.reduceNeg, Nat.reduceLT, Nat.reduceEqDiff, Nat.reduceAdd, Nat.reduceSub, Nat.reduceMul, Nat.reduceLeDiff]
    ((repeat refine W_seq ?_); refine W_cond (b := true) (by first | rfl | simp only [ev, get_cons, Nat.reduceEqDiff, if_true, if_false, reduceIte]) (fun _ => ?_) (fun h => by cases h))
    ((repeat refine W_seq ?_); refine W_region0 T_ok ?_)
    simp (maxSteps := 1000000) only [VL, vappend, ↓Gd_none, ↓Gd_t, ↓Gd_f, ev, ofValue, zipEnv, thenQ, blockQ, vfill, inOrder, toPss, toPs, toP, obound, keyOf, cellInts, elemsOf, nilV, extV, pickV, refs, refsL, isCell, cellsOf, strip1, gdV, pdOk, pdPush, pdTick, Back, cond_true, cond_false, if_true, if_false, forall_const, reduceIte, reduceCtorEq, Int.reduceLE, Int.reduceLT, Int.reduceToNat, Int.reduceNeg, Nat.reduceLT, Nat.reduceEqDiff, Nat.reduceAdd, Nat.reduceSub, Nat.reduceMul, Nat.reduceLeDiff]
    (repeat refine W_seq ?_)
    refine W_ret ?_
    try simp only [thenQ, blockQ]
    refine own_ret1 rfl ?_ (by rfl)
    simp only [get_cons, frz, vtup, Nat.reduceEqDiff, if_true, if_false, reduceIte]
    rw [e1]; rfl
  rw [a1] at e1
  simp (maxSteps := 1000000) only [VL, vappend, ↓Gd_none, ↓Gd_t, ↓Gd_f, ev, ofValue, zipEnv, thenQ, blockQ, vfill, inOrder, toPss, toPs, toP, obound, keyOf, cellInts, elemsOf, nilV, extV, pickV, refs, refsL, isCell, cellsOf, strip1, gdV, pdOk, pdPush, pdTick, Back, cond_true, cond_false, if_true, if_false, forall_const, reduceIte, reduceCtorEq, Int.reduceLE, Int.reduceLT, Int.reduceToNat, Int.reduceNeg, Nat.reduceLT, Nat.reduceEqDiff, Nat.reduceAdd, Nat.reduceSub, Nat.reduceMul, Nat.reduceLeDiff]
  apply call_eq (f := 54) (fn := Try.f54) (by kernel_rfl) (by rfl)
  · exact within_v _ _ _ _
  cases a2 : inR k.hi 0 1000000
  · rw [a2] at e1
    simp (maxSteps := 1000000) only [VL, vappend, ↓Gd_none, ↓Gd_t, ↓Gd_f, ev, ofValue, zipEnv, thenQ, blockQ, vfill, inOrder, toPss, toPs, toP, obound, keyOf, cellInts, elemsOf, nilV, extV, pickV, refs, refsL, isCell, cellsOf, strip1, gdV, pdOk, pdPush, pdTick, Back, cond_true, cond_false, if_true, if_false, forall_const, reduceIte, reduceCtorEq, Int.reduceLE, Int.reduceLT, Int.reduceToNat, Int.reduceNeg, Nat.reduceLT, Nat.reduceEqDiff, Nat.reduceAdd, Nat.reduceSub, Nat.reduceMul, Nat.reduceLeDiff]
    ((repeat refine W_seq ?_); refine W_cond (b := true) (by first | rfl | simp only [ev, get_cons, Nat.reduceEqDiff, if_true, if_false, reduceIte]) (fun _ => ?_) (fun h => by cases h))
    ((repeat refine W_seq ?_); refine W_region0 T_ok ?_)
    simp (maxSteps := 1000000) only [VL, vappend, ↓Gd_none, ↓Gd_t, ↓Gd_f, ev, ofValue, zipEnv, thenQ, blockQ, vfill, inOrder, toPss, toPs, toP, obound, keyOf, cellInts, elemsOf, nilV, extV, pickV, refs, refsL, isCell, cellsOf, strip1, gdV, pdOk, pdPush, pdTick, Back, cond_true, cond_false, if_true, if_false, forall_const, reduceIte, reduceCtorEq, Int.reduceLE, Int.reduceLT, Int.reduceToNat, Int.reduceNeg, Nat.reduceLT, Nat.reduceEqDiff, Nat.reduceAdd, Nat.reduceSub, Nat.reduceMul, Nat.reduceLeDiff]
    (repeat refine W_seq ?_)
    refine W_ret ?_
    try simp only [thenQ, blockQ]
    refine own_ret1 rfl ?_ (by rfl)
    simp only [get_cons, frz, vtup, Nat.reduceEqDiff, if_true, if_false, reduceIte]
    rw [e1]; rfl
  rw [a2] at e1
  simp (maxSteps := 1000000) only [VL, vappend, ↓Gd_none, ↓Gd_t, ↓Gd_f, ev, ofValue, zipEnv, thenQ, blockQ, vfill, inOrder, toPss, toPs, toP, obound, keyOf, cellInts, elemsOf, nilV, extV, pickV, refs, refsL, isCell, cellsOf, strip1, gdV, pdOk, pdPush, pdTick, Back, cond_true, cond_false, if_true, if_false, forall_const, reduceIte, reduceCtorEq, Int.reduceLE, Int.reduceLT, Int.reduceToNat, Int.reduceNeg, Nat.reduceLT, Nat.reduceEqDiff, Nat.reduceAdd, Nat.reduceSub, Nat.reduceMul, Nat.reduceLeDiff]
  ((repeat refine W_seq ?_); refine W_cond (b := false) (by first | rfl | simp only [ev, get_cons, Nat.reduceEqDiff, if_true, if_false, reduceIte]) (fun h => by cases h) (fun _ => ?_))
  ((repeat refine W_seq ?_); refine W_skip ?_)
  simp (maxSteps := 1000000) only [VL, vappend, ↓Gd_none, ↓Gd_t, ↓Gd_f, ev, ofValue, zipEnv, thenQ, blockQ, vfill, inOrder, toPss, toPs, toP, obound, keyOf, cellInts, elemsOf, nilV, extV, pickV, refs, refsL, isCell, cellsOf, strip1, gdV, pdOk, pdPush, pdTick, Back, cond_true, cond_false, if_true, if_false, forall_const, reduceIte, reduceCtorEq, Int.reduceLE, Int.reduceLT, Int.reduceToNat, Int.reduceNeg, Nat.reduceLT, Nat.reduceEqDiff, Nat.reduceAdd, Nat.reduceSub, Nat.reduceMul, Nat.reduceLeDiff]
  ((repeat refine W_seq ?_); refine W_region0 T_ok ?_)
  by_cases a3 : k.hi < k.lo
  · simp (maxSteps := 1000000) only [VL, vappend, ↓Gd_none, ↓Gd_t, ↓Gd_f, ev, ofValue, zipEnv, thenQ, blockQ, vfill, inOrder, toPss, toPs, toP, obound, keyOf, cellInts, elemsOf, nilV, extV, pickV, refs, refsL, isCell, cellsOf, strip1, gdV, pdOk, pdPush, pdTick, Back, cond_true, cond_false, if_true, if_false, forall_const, reduceIte, reduceCtorEq, Int.reduceLE, Int.reduceLT, Int.reduceToNat, Int.reduceNeg, Nat.reduceLT, Nat.reduceEqDiff, Nat.reduceAdd, Nat.reduceSub, Nat.reduceMul, Nat.reduceLeDiff, a3]
    ((repeat refine W_seq ?_); refine W_cond (b := true) (by first | rfl | simp only [ev, get_cons, Nat.reduceEqDiff, if_true, if_false, reduceIte]) (fun _ => ?_) (fun h => by cases h))
    ((repeat refine W_seq ?_); refine W_region0 T_ok ?_)
    simp (maxSteps := 1000000) only [VL, vappend, ↓Gd_none, ↓Gd_t, ↓Gd_f, ev, ofValue, zipEnv, thenQ, blockQ, vfill, inOrder, toPss, toPs, toP, obound, keyOf, cellInts, elemsOf, nilV, extV, pickV, refs, refsL, isCell, cellsOf, strip1, gdV, pdOk, pdPush, pdTick, Back, cond_true, cond_false, if_true, if_false, forall_const, reduceIte, reduceCtorEq, Int.reduceLE, Int.reduceLT, Int.reduceToNat, Int.reduceNeg, Nat.reduceLT, Nat.reduceEqDiff, Nat.reduceAdd, Nat.reduceSub, Nat.reduceMul, Nat.reduceLeDiff]
    (repeat refine W_seq ?_)
    refine W_ret ?_
    try simp only [thenQ, blockQ]
    refine own_ret1 rfl ?_ (by rfl)
    simp only [get_cons, frz, vtup, Nat.reduceEqDiff, if_true, if_false, reduceIte]
    simp [e1, a3]
  simp (maxSteps := 1000000) only [VL, vappend, ↓Gd_none, ↓Gd_t, ↓Gd_f, ev, ofValue, zipEnv, thenQ, blockQ, vfill, inOrder, toPss, toPs, toP, obound, keyOf, cellInts, elemsOf, nilV, extV, pickV, refs, refsL, isCell, cellsOf, strip1, gdV, pdOk, pdPush, pdTick, Back, cond_true, cond_false, if_true, if_false, forall_const, reduceIte, reduceCtorEq, Int.reduceLE, Int.reduceLT, Int.reduceToNat, Int.reduceNeg, Nat.reduceLT, Nat.reduceEqDiff, Nat.reduceAdd, Nat.reduceSub, Nat.reduceMul, Nat.reduceLeDiff, a3]
  ((repeat refine W_seq ?_); refine W_cond (b := false) (by first | rfl | simp only [ev, get_cons, Nat.reduceEqDiff, if_true, if_false, reduceIte]) (fun h => by cases h) (fun _ => ?_))
  ((repeat refine W_seq ?_); refine W_skip ?_)
  simp (maxSteps := 1000000) only [VL, vappend, ↓Gd_none, ↓Gd_t, ↓Gd_f, ev, ofValue, zipEnv, thenQ, blockQ, vfill, inOrder, toPss, toPs, toP, obound, keyOf, cellInts, elemsOf, nilV, extV, pickV, refs, refsL, isCell, cellsOf, strip1, gdV, pdOk, pdPush, pdTick, Back, cond_true, cond_false, if_true, if_false, forall_const, reduceIte, reduceCtorEq, Int.reduceLE, Int.reduceLT, Int.reduceToNat, Int.reduceNeg, Nat.reduceLT, Nat.reduceEqDiff, Nat.reduceAdd, Nat.reduceSub, Nat.reduceMul, Nat.reduceLeDiff]
  ((repeat refine W_seq ?_); refine W_region0 T_ok ?_)
  by_cases a4 : k.away.length = h.kinds.length
  rotate_left
  · have a4' : ((k.away.length : Int) = (h.kinds.length : Int)) = False := eq_false (by omega)
    simp (maxSteps := 1000000) only [VL, vappend, ↓Gd_none, ↓Gd_t, ↓Gd_f, ev, ofValue, zipEnv, thenQ, blockQ, vfill, inOrder, toPss, toPs, toP, obound, keyOf, cellInts, elemsOf, nilV, extV, pickV, refs, refsL, isCell, cellsOf, strip1, gdV, pdOk, pdPush, pdTick, Back, cond_true, cond_false, if_true, if_false, forall_const, reduceIte, reduceCtorEq, Int.reduceLE, Int.reduceLT, Int.reduceToNat, Int.reduceNeg, Nat.reduceLT, Nat.reduceEqDiff, Nat.reduceAdd, Nat.reduceSub, Nat.reduceMul, Nat.reduceLeDiff, a4']
    ((repeat refine W_seq ?_); refine W_cond (b := true) (by first | rfl | simp only [ev, get_cons, Nat.reduceEqDiff, if_true, if_false, reduceIte]) (fun _ => ?_) (fun h => by cases h))
    ((repeat refine W_seq ?_); refine W_region0 T_ok ?_)
    simp (maxSteps := 1000000) only [VL, vappend, ↓Gd_none, ↓Gd_t, ↓Gd_f, ev, ofValue, zipEnv, thenQ, blockQ, vfill, inOrder, toPss, toPs, toP, obound, keyOf, cellInts, elemsOf, nilV, extV, pickV, refs, refsL, isCell, cellsOf, strip1, gdV, pdOk, pdPush, pdTick, Back, cond_true, cond_false, if_true, if_false, forall_const, reduceIte, reduceCtorEq, Int.reduceLE, Int.reduceLT, Int.reduceToNat, Int.reduceNeg, Nat.reduceLT, Nat.reduceEqDiff, Nat.reduceAdd, Nat.reduceSub, Nat.reduceMul, Nat.reduceLeDiff]
    (repeat refine W_seq ?_)
    refine W_ret ?_
    try simp only [thenQ, blockQ]
    refine own_ret1 rfl ?_ (by rfl)
    simp only [get_cons, frz, vtup, Nat.reduceEqDiff, if_true, if_false, reduceIte]
    simp [e1, a3, a4]
  have a4' : ((k.away.length : Int) = (h.kinds.length : Int)) = True := eq_true (by omega)
  simp (maxSteps := 1000000) only [VL, vappend, ↓Gd_none, ↓Gd_t, ↓Gd_f, ev, ofValue, zipEnv, thenQ, blockQ, vfill, inOrder, toPss, toPs, toP, obound, keyOf, cellInts, elemsOf, nilV, extV, pickV, refs, refsL, isCell, cellsOf, strip1, gdV, pdOk, pdPush, pdTick, Back, cond_true, cond_false, if_true, if_false, forall_const, reduceIte, reduceCtorEq, Int.reduceLE, Int.reduceLT, Int.reduceToNat, Int.reduceNeg, Nat.reduceLT, Nat.reduceEqDiff, Nat.reduceAdd, Nat.reduceSub, Nat.reduceMul, Nat.reduceLeDiff, a4']
  ((repeat refine W_seq ?_); refine W_cond (b := false) (by first | rfl | simp only [ev, get_cons, Nat.reduceEqDiff, if_true, if_false, reduceIte]) (fun h => by cases h) (fun _ => ?_))
  ((repeat refine W_seq ?_); refine W_skip ?_)
  simp (maxSteps := 1000000) only [VL, vappend, ↓Gd_none, ↓Gd_t, ↓Gd_f, ev, ofValue, zipEnv, thenQ, blockQ, vfill, inOrder, toPss, toPs, toP, obound, keyOf, cellInts, elemsOf, nilV, extV, pickV, refs, refsL, isCell, cellsOf, strip1, gdV, pdOk, pdPush, pdTick, Back, cond_true, cond_false, if_true, if_false, forall_const, reduceIte, reduceCtorEq, Int.reduceLE, Int.reduceLT, Int.reduceToNat, Int.reduceNeg, Nat.reduceLT, Nat.reduceEqDiff, Nat.reduceAdd, Nat.reduceSub, Nat.reduceMul, Nat.reduceLeDiff]
  ((repeat refine W_seq ?_); refine W_region0 T_ok ?_)
  simp (maxSteps := 1000000) only [VL, vappend, ↓Gd_none, ↓Gd_t, ↓Gd_f, ev, ofValue, zipEnv, thenQ, blockQ, vfill, inOrder, toPss, toPs, toP, obound, keyOf, cellInts, elemsOf, nilV, extV, pickV, refs, refsL, isCell, cellsOf, strip1, gdV, pdOk, pdPush, pdTick, Back, cond_true, cond_false, if_true, if_false, forall_const, reduceIte, reduceCtorEq, Int.reduceLE, Int.reduceLT, Int.reduceToNat, Int.reduceNeg, Nat.reduceLT, Nat.reduceEqDiff, Nat.reduceAdd, Nat.reduceSub, Nat.reduceMul, Nat.reduceLeDiff]
  ((repeat refine W_seq ?_); refine W_block ?_; (repeat refine W_seq ?_)); refine W_loopS (fun i : Nat => [(0, hallV h), (1, kiV k), (2, VV.ptr M.H.length 0), (3, VV.ptr (M.H.length + 1) 0), (5, vi i)]) (fun _ => ⟨M.H ++ [VObj.obj (hallC h), VObj.obj [vi k.lo, vi k.hi, vb k.water, intsV k.away, vi k.rent, vi k.most]], M.lg⟩) (fun i => k.away.length - i) (fun i => i ≤ k.away.length ∧ (k.away.take i).any (fun n => !inR n 0 9) = false) 0 ⟨Nat.zero_le _, by simp⟩ ⟨rfl, rfl, rfl, rfl, rfl, trivial⟩ rfl ?_
  rintro i ⟨hi, hno⟩
  have k1 : -9223372036854775808 ≤ (i : Int) + 1 ∧ (i : Int) + 1 < 9223372036854775808 := by omega
  ((repeat refine W_seq ?_); refine W_region0 T_ok ?_)
  rcases Nat.lt_or_ge i k.away.length with hlt | hge
  · have k2 : ((i : Int) < (k.away.length : Int)) = True := eq_true (by omega)
    have hx : k.away[i]? = some k.away[i] := List.getElem?_eq_getElem hlt
    have hx' := map_at (f := intP) hx
    generalize hd : k.away[i] = d at hx hx'
    simp (maxSteps := 1000000) only [VL, vappend, ↓Gd_none, ↓Gd_t, ↓Gd_f, ev, ofValue, zipEnv, thenQ, blockQ, vfill, inOrder, toPss, toPs, toP, obound, keyOf, cellInts, elemsOf, nilV, extV, pickV, refs, refsL, isCell, cellsOf, strip1, gdV, pdOk, pdPush, pdTick, Back, cond_true, cond_false, if_true, if_false, forall_const, reduceIte, reduceCtorEq, Int.reduceLE, Int.reduceLT, Int.reduceToNat, Int.reduceNeg, Nat.reduceLT, Nat.reduceEqDiff, Nat.reduceAdd, Nat.reduceSub, Nat.reduceMul, Nat.reduceLeDiff, k2]
    ((repeat refine W_seq ?_); refine W_cond (b := true) (by first | rfl | simp only [ev, get_cons, Nat.reduceEqDiff, if_true, if_false, reduceIte]) (fun _ => ?_) (fun h => by cases h))
    ((repeat refine W_seq ?_); refine W_skip ?_)
    simp (maxSteps := 1000000) only [VL, vappend, ↓Gd_none, ↓Gd_t, ↓Gd_f, ev, ofValue, zipEnv, thenQ, blockQ, vfill, inOrder, toPss, toPs, toP, obound, keyOf, cellInts, elemsOf, nilV, extV, pickV, refs, refsL, isCell, cellsOf, strip1, gdV, pdOk, pdPush, pdTick, Back, cond_true, cond_false, if_true, if_false, forall_const, reduceIte, reduceCtorEq, Int.reduceLE, Int.reduceLT, Int.reduceToNat, Int.reduceNeg, Nat.reduceLT, Nat.reduceEqDiff, Nat.reduceAdd, Nat.reduceSub, Nat.reduceMul, Nat.reduceLeDiff]
    ((repeat refine W_seq ?_); refine W_block ?_)
    ((repeat refine W_seq ?_); refine W_region0 T_ok ?_)
    simp (maxSteps := 1000000) only [VL, vappend, ↓Gd_none, ↓Gd_t, ↓Gd_f, ev, ofValue, zipEnv, thenQ, blockQ, vfill, inOrder, toPss, toPs, toP, obound, keyOf, cellInts, elemsOf, nilV, extV, pickV, refs, refsL, isCell, cellsOf, strip1, gdV, pdOk, pdPush, pdTick, Back, cond_true, cond_false, if_true, if_false, forall_const, reduceIte, reduceCtorEq, Int.reduceLE, Int.reduceLT, Int.reduceToNat, Int.reduceNeg, Nat.reduceLT, Nat.reduceEqDiff, Nat.reduceAdd, Nat.reduceSub, Nat.reduceMul, Nat.reduceLeDiff, hx']
    apply call_eq (f := 54) (fn := Try.f54) (by kernel_rfl) (by rfl)
    · exact within_v _ _ _ _
    cases hp : inR d 0 9
    · simp (maxSteps := 1000000) only [VL, vappend, ↓Gd_none, ↓Gd_t, ↓Gd_f, ev, ofValue, zipEnv, thenQ, blockQ, vfill, inOrder, toPss, toPs, toP, obound, keyOf, cellInts, elemsOf, nilV, extV, pickV, refs, refsL, isCell, cellsOf, strip1, gdV, pdOk, pdPush, pdTick, Back, cond_true, cond_false, if_true, if_false, forall_const, reduceIte, reduceCtorEq, Int.reduceLE, Int.reduceLT, Int.reduceToNat, Int.reduceNeg, Nat.reduceLT, Nat.reduceEqDiff, Nat.reduceAdd, Nat.reduceSub, Nat.reduceMul, Nat.reduceLeDiff]
      ((repeat refine W_seq ?_); refine W_cond (b := true) (by first | rfl | simp only [ev, get_cons, Nat.reduceEqDiff, if_true, if_false, reduceIte]) (fun _ => ?_) (fun h => by cases h))
      ((repeat refine W_seq ?_); refine W_region0 T_ok ?_)
      simp (maxSteps := 1000000) only [VL, vappend, ↓Gd_none, ↓Gd_t, ↓Gd_f, ev, ofValue, zipEnv, thenQ, blockQ, vfill, inOrder, toPss, toPs, toP, obound, keyOf, cellInts, elemsOf, nilV, extV, pickV, refs, refsL, isCell, cellsOf, strip1, gdV, pdOk, pdPush, pdTick, Back, cond_true, cond_false, if_true, if_false, forall_const, reduceIte, reduceCtorEq, Int.reduceLE, Int.reduceLT, Int.reduceToNat, Int.reduceNeg, Nat.reduceLT, Nat.reduceEqDiff, Nat.reduceAdd, Nat.reduceSub, Nat.reduceMul, Nat.reduceLeDiff]
      (repeat refine W_seq ?_)
      refine W_ret ?_
      try simp only [thenQ, blockQ]
      refine own_ret1 rfl ?_ (by rfl)
      simp only [get_cons, frz, vtup, Nat.reduceEqDiff, if_true, if_false, reduceIte]
      have a5 := any_hit (fun n => !inR n 0 9) k.away i d hx (by simp [hp])
      rw [e1, a5]
      simp [a3, a4]
    · simp (maxSteps := 1000000) only [VL, vappend, ↓Gd_none, ↓Gd_t, ↓Gd_f, ev, ofValue, zipEnv, thenQ, blockQ, vfill, inOrder, toPss, toPs, toP, obound, keyOf, cellInts, elemsOf, nilV, extV, pickV, refs, refsL, isCell, cellsOf, strip1, gdV, pdOk, pdPush, pdTick, Back, cond_true, cond_false, if_true, if_false, forall_const, reduceIte, reduceCtorEq, Int.reduceLE, Int.reduceLT, Int.reduceToNat, Int.reduceNeg, Nat.reduceLT, Nat.reduceEqDiff, Nat.reduceAdd, Nat.reduceSub, Nat.reduceMul, Nat.reduceLeDiff]
      ((repeat refine W_seq ?_); refine W_cond (b := false) (by first | rfl | simp only [ev, get_cons, Nat.reduceEqDiff, if_true, if_false, reduceIte]) (fun h => by cases h) (fun _ => ?_))
      ((repeat refine W_seq ?_); refine W_skip ?_)
      simp (maxSteps := 1000000) only [VL, vappend, ↓Gd_none, ↓Gd_t, ↓Gd_f, ev, ofValue, zipEnv, thenQ, blockQ, vfill, inOrder, toPss, toPs, toP, obound, keyOf, cellInts, elemsOf, nilV, extV, pickV, refs, refsL, isCell, cellsOf, strip1, gdV, pdOk, pdPush, pdTick, Back, cond_true, cond_false, if_true, if_false, forall_const, reduceIte, reduceCtorEq, Int.reduceLE, Int.reduceLT, Int.reduceToNat, Int.reduceNeg, Nat.reduceLT, Nat.reduceEqDiff, Nat.reduceAdd, Nat.reduceSub, Nat.reduceMul, Nat.reduceLeDiff]
      ((repeat refine W_seq ?_); refine W_region0 T_ok ?_)
      simp (maxSteps := 1000000) only [VL, vappend, ↓Gd_none, ↓Gd_t, ↓Gd_f, ev, ofValue, zipEnv, thenQ, blockQ, vfill, inOrder, toPss, toPs, toP, obound, keyOf, cellInts, elemsOf, nilV, extV, pickV, refs, refsL, isCell, cellsOf, strip1, gdV, pdOk, pdPush, pdTick, Back, cond_true, cond_false, if_true, if_false, forall_const, reduceIte, reduceCtorEq, Int.reduceLE, Int.reduceLT, Int.reduceToNat, Int.reduceNeg, Nat.reduceLT, Nat.reduceEqDiff, Nat.reduceAdd, Nat.reduceSub, Nat.reduceMul, Nat.reduceLeDiff, k1]
      refine LoopK.mk (i + 1) (by omega) ⟨by omega, ?_⟩ ⟨rfl, rfl, rfl, rfl, rfl, trivial⟩ rfl
      rw [any_take _ _ i _ hx, hno, hp]; rfl
  have k2 : ((i : Int) < (k.away.length : Int)) = False := eq_false (by omega)
  obtain rfl : i = k.away.length := by omega
  rw [List.take_length] at hno
  rw [hno] at e1
  simp (maxSteps := 1000000) only [VL, vappend, ↓Gd_none, ↓Gd_t, ↓Gd_f, ev, ofValue, zipEnv, thenQ, blockQ, vfill, inOrder, toPss, toPs, toP, obound, keyOf, cellInts, elemsOf, nilV, extV, pickV, refs, refsL, isCell, cellsOf, strip1, gdV, pdOk, pdPush, pdTick, Back, cond_true, cond_false, if_true, if_false, forall_const, reduceIte, reduceCtorEq, Int.reduceLE, Int.reduceLT, Int.reduceToNat, Int.reduceNeg, Nat.reduceLT, Nat.reduceEqDiff, Nat.reduceAdd, Nat.reduceSub, Nat.reduceMul, Nat.reduceLeDiff, k2]
  ((repeat refine W_seq ?_); refine W_cond (b := false) (by first | rfl | simp only [ev, get_cons, Nat.reduceEqDiff, if_true, if_false, reduceIte]) (fun h => by cases h) (fun _ => ?_))
  ((repeat refine W_seq ?_); refine W_exit ?_)
  simp (maxSteps := 1000000) only [VL, vappend, ↓Gd_none, ↓Gd_t, ↓Gd_f, ev, ofValue, zipEnv, thenQ, blockQ, vfill, inOrder, toPss, toPs, toP, obound, keyOf, cellInts, elemsOf, nilV, extV, pickV, refs, refsL, isCell, cellsOf, strip1, gdV, pdOk, pdPush, pdTick, Back, cond_true, cond_false, if_true, if_false, forall_const, reduceIte, reduceCtorEq, Int.reduceLE, Int.reduceLT, Int.reduceToNat, Int.reduceNeg, Nat.reduceLT, Nat.reduceEqDiff, Nat.reduceAdd, Nat.reduceSub, Nat.reduceMul, Nat.reduceLeDiff]
  ((repeat refine W_seq ?_); refine W_region0 T_ok ?_)
  simp (maxSteps := 1000000) only [VL, vappend, ↓Gd_none, ↓Gd_t, ↓Gd_f, ev, ofValue, zipEnv, thenQ, blockQ, vfill, inOrder, toPss, toPs, toP, obound, keyOf, cellInts, elemsOf, nilV, extV, pickV, refs, refsL, isCell, cellsOf, strip1, gdV, pdOk, pdPush, pdTick, Back, cond_true, cond_false, if_true, if_false, forall_const, reduceIte, reduceCtorEq, Int.reduceLE, Int.reduceLT, Int.reduceToNat, Int.reduceNeg, Nat.reduceLT, Nat.reduceEqDiff, Nat.reduceAdd, Nat.reduceSub, Nat.reduceMul, Nat.reduceLeDiff]
  apply call_eq (f := 54) (fn := Try.f54) (by kernel_rfl) (by rfl)
  · exact within_v _ _ _ _
  cases a6 : inR k.rent 0 1000000
  · simp (maxSteps := 1000000) only [VL, vappend, ↓Gd_none, ↓Gd_t, ↓Gd_f, ev, ofValue, zipEnv, thenQ, blockQ, vfill, inOrder, toPss, toPs, toP, obound, keyOf, cellInts, elemsOf, nilV, extV, pickV, refs, refsL, isCell, cellsOf, strip1, gdV, pdOk, pdPush, pdTick, Back, cond_true, cond_false, if_true, if_false, forall_const, reduceIte, reduceCtorEq, Int.reduceLE, Int.reduceLT, Int.reduceToNat, Int.reduceNeg, Nat.reduceLT, Nat.reduceEqDiff, Nat.reduceAdd, Nat.reduceSub, Nat.reduceMul, Nat.reduceLeDiff]
    ((repeat refine W_seq ?_); refine W_cond (b := true) (by first | rfl | simp only [ev, get_cons, Nat.reduceEqDiff, if_true, if_false, reduceIte]) (fun _ => ?_) (fun h => by cases h))
    ((repeat refine W_seq ?_); refine W_region0 T_ok ?_)
    simp (maxSteps := 1000000) only [VL, vappend, ↓Gd_none, ↓Gd_t, ↓Gd_f, ev, ofValue, zipEnv, thenQ, blockQ, vfill, inOrder, toPss, toPs, toP, obound, keyOf, cellInts, elemsOf, nilV, extV, pickV, refs, refsL, isCell, cellsOf, strip1, gdV, pdOk, pdPush, pdTick, Back, cond_true, cond_false, if_true, if_false, forall_const, reduceIte, reduceCtorEq, Int.reduceLE, Int.reduceLT, Int.reduceToNat, Int.reduceNeg, Nat.reduceLT, Nat.reduceEqDiff, Nat.reduceAdd, Nat.reduceSub, Nat.reduceMul, Nat.reduceLeDiff]
    (repeat refine W_seq ?_)
    refine W_ret ?_
    try simp only [thenQ, blockQ]
    refine own_ret1 rfl ?_ (by rfl)
    simp only [get_cons, frz, vtup, Nat.reduceEqDiff, if_true, if_false, reduceIte]
    rw [e1, a6]
    simp [a3, a4]
  simp (maxSteps := 1000000) only [VL, vappend, ↓Gd_none, ↓Gd_t, ↓Gd_f, ev, ofValue, zipEnv, thenQ, blockQ, vfill, inOrder, toPss, toPs, toP, obound, keyOf, cellInts, elemsOf, nilV, extV, pickV, refs, refsL, isCell, cellsOf, strip1, gdV, pdOk, pdPush, pdTick, Back, cond_true, cond_false, if_true, if_false, forall_const, reduceIte, reduceCtorEq, Int.reduceLE, Int.reduceLT, Int.reduceToNat, Int.reduceNeg, Nat.reduceLT, Nat.reduceEqDiff, Nat.reduceAdd, Nat.reduceSub, Nat.reduceMul, Nat.reduceLeDiff]
  apply call_eq (f := 54) (fn := Try.f54) (by kernel_rfl) (by rfl)
  · exact within_v _ _ _ _
  cases a7 : inR k.most 0 24
  · simp (maxSteps := 1000000) only [VL, vappend, ↓Gd_none, ↓Gd_t, ↓Gd_f, ev, ofValue, zipEnv, thenQ, blockQ, vfill, inOrder, toPss, toPs, toP, obound, keyOf, cellInts, elemsOf, nilV, extV, pickV, refs, refsL, isCell, cellsOf, strip1, gdV, pdOk, pdPush, pdTick, Back, cond_true, cond_false, if_true, if_false, forall_const, reduceIte, reduceCtorEq, Int.reduceLE, Int.reduceLT, Int.reduceToNat, Int.reduceNeg, Nat.reduceLT, Nat.reduceEqDiff, Nat.reduceAdd, Nat.reduceSub, Nat.reduceMul, Nat.reduceLeDiff]
    ((repeat refine W_seq ?_); refine W_cond (b := true) (by first | rfl | simp only [ev, get_cons, Nat.reduceEqDiff, if_true, if_false, reduceIte]) (fun _ => ?_) (fun h => by cases h))
    ((repeat refine W_seq ?_); refine W_region0 T_ok ?_)
    simp (maxSteps := 1000000) only [VL, vappend, ↓Gd_none, ↓Gd_t, ↓Gd_f, ev, ofValue, zipEnv, thenQ, blockQ, vfill, inOrder, toPss, toPs, toP, obound, keyOf, cellInts, elemsOf, nilV, extV, pickV, refs, refsL, isCell, cellsOf, strip1, gdV, pdOk, pdPush, pdTick, Back, cond_true, cond_false, if_true, if_false, forall_const, reduceIte, reduceCtorEq, Int.reduceLE, Int.reduceLT, Int.reduceToNat, Int.reduceNeg, Nat.reduceLT, Nat.reduceEqDiff, Nat.reduceAdd, Nat.reduceSub, Nat.reduceMul, Nat.reduceLeDiff]
    (repeat refine W_seq ?_)
    refine W_ret ?_
    try simp only [thenQ, blockQ]
    refine own_ret1 rfl ?_ (by rfl)
    simp only [get_cons, frz, vtup, Nat.reduceEqDiff, if_true, if_false, reduceIte]
    rw [e1, a6, a7]
    simp [a3, a4]
  simp (maxSteps := 1000000) only [VL, vappend, ↓Gd_none, ↓Gd_t, ↓Gd_f, ev, ofValue, zipEnv, thenQ, blockQ, vfill, inOrder, toPss, toPs, toP, obound, keyOf, cellInts, elemsOf, nilV, extV, pickV, refs, refsL, isCell, cellsOf, strip1, gdV, pdOk, pdPush, pdTick, Back, cond_true, cond_false, if_true, if_false, forall_const, reduceIte, reduceCtorEq, Int.reduceLE, Int.reduceLT, Int.reduceToNat, Int.reduceNeg, Nat.reduceLT, Nat.reduceEqDiff, Nat.reduceAdd, Nat.reduceSub, Nat.reduceMul, Nat.reduceLeDiff]
  ((repeat refine W_seq ?_); refine W_cond (b := false) (by first | rfl | simp only [ev, get_cons, Nat.reduceEqDiff, if_true, if_false, reduceIte]) (fun h => by cases h) (fun _ => ?_))
  ((repeat refine W_seq ?_); refine W_skip ?_)
  simp (maxSteps := 1000000) only [VL, vappend, ↓Gd_none, ↓Gd_t, ↓Gd_f, ev, ofValue, zipEnv, thenQ, blockQ, vfill, inOrder, toPss, toPs, toP, obound, keyOf, cellInts, elemsOf, nilV, extV, pickV, refs, refsL, isCell, cellsOf, strip1, gdV, pdOk, pdPush, pdTick, Back, cond_true, cond_false, if_true, if_false, forall_const, reduceIte, reduceCtorEq, Int.reduceLE, Int.reduceLT, Int.reduceToNat, Int.reduceNeg, Nat.reduceLT, Nat.reduceEqDiff, Nat.reduceAdd, Nat.reduceSub, Nat.reduceMul, Nat.reduceLeDiff]
  ((repeat refine W_seq ?_); refine W_region0 T_ok ?_)
  simp (maxSteps := 1000000) only [VL, vappend, ↓Gd_none, ↓Gd_t, ↓Gd_f, ev, ofValue, zipEnv, thenQ, blockQ, vfill, inOrder, toPss, toPs, toP, obound, keyOf, cellInts, elemsOf, nilV, extV, pickV, refs, refsL, isCell, cellsOf, strip1, gdV, pdOk, pdPush, pdTick, Back, cond_true, cond_false, if_true, if_false, forall_const, reduceIte, reduceCtorEq, Int.reduceLE, Int.reduceLT, Int.reduceToNat, Int.reduceNeg, Nat.reduceLT, Nat.reduceEqDiff, Nat.reduceAdd, Nat.reduceSub, Nat.reduceMul, Nat.reduceLeDiff]
  (repeat refine W_seq ?_)
  refine W_ret ?_
  try simp only [thenQ, blockQ]
  refine own_ret1 rfl ?_ (by rfl)
  simp only [get_cons, frz, vtup, Nat.reduceEqDiff, if_true, if_false, reduceIte]
  rw [e1, a6, a7]
  simp [a3, a4]
theorem checkCells_v' (h : Ha) (l : List Pl) (M : Mem) (a1 : inR h.wide 1 6 = true) (a2 : inR h.deep 1 4 = true) (hl : l.length ≤ 1000000) : VC Try.prog 55 [hallV h, plsV l] M (fun r M' => M' = M ∧ r = vi (cellsErr h l)) := checkCells_v h l M (by rw [inR_true] at a1; exact a1.1) (by rw [inR_true] at a1; omega) (by rw [inR_true] at a2; exact a2.1) (by rw [inR_true] at a2; omega) hl
theorem check_v (h : Ha) (M : Mem) (F : Fin h) : VC Try.prog 14 [hallV h] M (fun r M' => M' = M ∧ r = vi (hallErr h)) := by
  obtain ⟨f1, f2, f3, f4, f5⟩ := F
  have e1 : hallErr h = hallErr h := rfl
  conv at e1 => rhs; unfold hallErr
  refine VC_own' T_ok (f := 14) (fn := Try.f14) (by kernel_rfl) rfl Try.ntmps14 (by rfl) (by rfl) ?_
  ((repeat refine W_seq ?_); refine W_region0 T_ok ?_)
  simp (maxSteps := 1000000) only [VL, vappend, ↓Gd_none, ↓Gd_t, ↓Gd_f, ev, ofValue, zipEnv, thenQ, blockQ, vfill, inOrder, toPss, toPs, toP, obound, keyOf, cellInts, elemsOf, nilV, extV, pickV, refs, refsL, isCell, cellsOf, strip1, gdV, pdOk, pdPush, pdTick, Back, cond_true, cond_false, if_true, if_false, forall_const, reduceIte, reduceCtorEq, Int.reduceLE, Int.reduceLT, Int.reduceToNat, Int.reduceNeg, Nat.reduceLT, Nat.reduceEqDiff, Nat.reduceAdd, Nat.reduceSub, Nat.reduceMul, Nat.reduceLeDiff]
  ((repeat refine W_seq ?_); refine W_region0 T_ok ?_)
  simp (maxSteps := 1000000) only [VL, vappend, ↓Gd_none, ↓Gd_t, ↓Gd_f, ev, ofValue, zipEnv, thenQ, blockQ, vfill, inOrder, toPss, toPs, toP, obound, keyOf, cellInts, elemsOf, nilV, extV, pickV, refs, refsL, isCell, cellsOf, strip1, gdV, pdOk, pdPush, pdTick, Back, cond_true, cond_false, if_true, if_false, forall_const, reduceIte, reduceCtorEq, Int.reduceLE, Int.reduceLT, Int.reduceToNat, Int.reduceNeg, Nat.reduceLT, Nat.reduceEqDiff, Nat.reduceAdd, Nat.reduceSub, Nat.reduceMul, Nat.reduceLeDiff]
  apply call_eq (f := 54) (fn := Try.f54) (by kernel_rfl) (by rfl)
  · exact within_v _ _ _ _
  cases a1 : inR h.wide 1 6
  · rw [a1] at e1
    simp (maxSteps := 1000000) only [VL, vappend, ↓Gd_none, ↓Gd_t, ↓Gd_f, ev, ofValue, zipEnv, thenQ, blockQ, vfill, inOrder, toPss, toPs, toP, obound, keyOf, cellInts, elemsOf, nilV, extV, pickV, refs, refsL, isCell, cellsOf, strip1, gdV, pdOk, pdPush, pdTick, Back, cond_true, cond_false, if_true, if_false, forall_const, reduceIte, reduceCtorEq, Int.reduceLE, Int.reduceLT, Int.reduceToNat, Int.reduceNeg, Nat.reduceLT, Nat.reduceEqDiff, Nat.reduceAdd, Nat.reduceSub, Nat.reduceMul, Nat.reduceLeDiff]
    ((repeat refine W_seq ?_); refine W_cond (b := true) (by first | rfl | simp only [ev, get_cons, Nat.reduceEqDiff, if_true, if_false, reduceIte]) (fun _ => ?_) (fun h => by cases h))
    ((repeat refine W_seq ?_); refine W_region0 T_ok ?_)
    simp (maxSteps := 1000000) only [VL, vappend, ↓Gd_none, ↓Gd_t, ↓Gd_f, ev, ofValue, zipEnv, thenQ, blockQ, vfill, inOrder, toPss, toPs, toP, obound, keyOf, cellInts, elemsOf, nilV, extV, pickV, refs, refsL, isCell, cellsOf, strip1, gdV, pdOk, pdPush, pdTick, Back, cond_true, cond_false, if_true, if_false, forall_const, reduceIte, reduceCtorEq, Int.reduceLE, Int.reduceLT, Int.reduceToNat, Int.reduceNeg, Nat.reduceLT, Nat.reduceEqDiff, Nat.reduceAdd, Nat.reduceSub, Nat.reduceMul, Nat.reduceLeDiff]
    (repeat refine W_seq ?_)
    refine W_ret ?_
    try simp only [thenQ, blockQ]
    refine own_ret1 rfl ?_ (by rfl)
    simp only [get_cons, frz, vtup, Nat.reduceEqDiff, if_true, if_false, reduceIte]
    rw [e1]; rfl
  rw [a1] at e1
  simp (maxSteps := 1000000) only [VL, vappend, ↓Gd_none, ↓Gd_t, ↓Gd_f, ev, ofValue, zipEnv, thenQ, blockQ, vfill, inOrder, toPss, toPs, toP, obound, keyOf, cellInts, elemsOf, nilV, extV, pickV, refs, refsL, isCell, cellsOf, strip1, gdV, pdOk, pdPush, pdTick, Back, cond_true, cond_false, if_true, if_false, forall_const, reduceIte, reduceCtorEq, Int.reduceLE, Int.reduceLT, Int.reduceToNat, Int.reduceNeg, Nat.reduceLT, Nat.reduceEqDiff, Nat.reduceAdd, Nat.reduceSub, Nat.reduceMul, Nat.reduceLeDiff]
  apply call_eq (f := 54) (fn := Try.f54) (by kernel_rfl) (by rfl)
  · exact within_v _ _ _ _
  cases a2 : inR h.deep 1 4
  · rw [a2] at e1
    simp (maxSteps := 1000000) only [VL, vappend, ↓Gd_none, ↓Gd_t, ↓Gd_f, ev, ofValue, zipEnv, thenQ, blockQ, vfill, inOrder, toPss, toPs, toP, obound, keyOf, cellInts, elemsOf, nilV, extV, pickV, refs, refsL, isCell, cellsOf, strip1, gdV, pdOk, pdPush, pdTick, Back, cond_true, cond_false, if_true, if_false, forall_const, reduceIte, reduceCtorEq, Int.reduceLE, Int.reduceLT, Int.reduceToNat, Int.reduceNeg, Nat.reduceLT, Nat.reduceEqDiff, Nat.reduceAdd, Nat.reduceSub, Nat.reduceMul, Nat.reduceLeDiff]
    ((repeat refine W_seq ?_); refine W_cond (b := true) (by first | rfl | simp only [ev, get_cons, Nat.reduceEqDiff, if_true, if_false, reduceIte]) (fun _ => ?_) (fun h => by cases h))
    ((repeat refine W_seq ?_); refine W_region0 T_ok ?_)
    simp (maxSteps := 1000000) only [VL, vappend, ↓Gd_none, ↓Gd_t, ↓Gd_f, ev, ofValue, zipEnv, thenQ, blockQ, vfill, inOrder, toPss, toPs, toP, obound, keyOf, cellInts, elemsOf, nilV, extV, pickV, refs, refsL, isCell, cellsOf, strip1, gdV, pdOk, pdPush, pdTick, Back, cond_true, cond_false, if_true, if_false, forall_const, reduceIte, reduceCtorEq, Int.reduceLE, Int.reduceLT, Int.reduceToNat, Int.reduceNeg, Nat.reduceLT, Nat.reduceEqDiff, Nat.reduceAdd, Nat.reduceSub, Nat.reduceMul, Nat.reduceLeDiff]
    (repeat refine W_seq ?_)
    refine W_ret ?_
    try simp only [thenQ, blockQ]
    refine own_ret1 rfl ?_ (by rfl)
    simp only [get_cons, frz, vtup, Nat.reduceEqDiff, if_true, if_false, reduceIte]
    rw [e1]; rfl
  rw [a2] at e1
  simp (maxSteps := 1000000) only [VL, vappend, ↓Gd_none, ↓Gd_t, ↓Gd_f, ev, ofValue, zipEnv, thenQ, blockQ, vfill, inOrder, toPss, toPs, toP, obound, keyOf, cellInts, elemsOf, nilV, extV, pickV, refs, refsL, isCell, cellsOf, strip1, gdV, pdOk, pdPush, pdTick, Back, cond_true, cond_false, if_true, if_false, forall_const, reduceIte, reduceCtorEq, Int.reduceLE, Int.reduceLT, Int.reduceToNat, Int.reduceNeg, Nat.reduceLT, Nat.reduceEqDiff, Nat.reduceAdd, Nat.reduceSub, Nat.reduceMul, Nat.reduceLeDiff]
  ((repeat refine W_seq ?_); refine W_cond (b := false) (by first | rfl | simp only [ev, get_cons, Nat.reduceEqDiff, if_true, if_false, reduceIte]) (fun h => by cases h) (fun _ => ?_))
  ((repeat refine W_seq ?_); refine W_skip ?_)
  simp (maxSteps := 1000000) only [VL, vappend, ↓Gd_none, ↓Gd_t, ↓Gd_f, ev, ofValue, zipEnv, thenQ, blockQ, vfill, inOrder, toPss, toPs, toP, obound, keyOf, cellInts, elemsOf, nilV, extV, pickV, refs, refsL, isCell, cellsOf, strip1, gdV, pdOk, pdPush, pdTick, Back, cond_true, cond_false, if_true, if_false, forall_const, reduceIte, reduceCtorEq, Int.reduceLE, Int.reduceLT, Int.reduceToNat, Int.reduceNeg, Nat.reduceLT, Nat.reduceEqDiff, Nat.reduceAdd, Nat.reduceSub, Nat.reduceMul, Nat.reduceLeDiff]
  ((repeat refine W_seq ?_); refine W_region0 T_ok ?_)
  simp (maxSteps := 1000000) only [VL, vappend, ↓Gd_none, ↓Gd_t, ↓Gd_f, ev, ofValue, zipEnv, thenQ, blockQ, vfill, inOrder, toPss, toPs, toP, obound, keyOf, cellInts, elemsOf, nilV, extV, pickV, refs, refsL, isCell, cellsOf, strip1, gdV, pdOk, pdPush, pdTick, Back, cond_true, cond_false, if_true, if_false, forall_const, reduceIte, reduceCtorEq, Int.reduceLE, Int.reduceLT, Int.reduceToNat, Int.reduceNeg, Nat.reduceLT, Nat.reduceEqDiff, Nat.reduceAdd, Nat.reduceSub, Nat.reduceMul, Nat.reduceLeDiff]
  apply call_eq (f := 55) (fn := Try.f55) (by kernel_rfl) (by rfl)
  · exact checkCells_v' h h.water _ a1 a2 f1
  simp (maxSteps := 1000000) only [VL, vappend, ↓Gd_none, ↓Gd_t, ↓Gd_f, ev, ofValue, zipEnv, thenQ, blockQ, vfill, inOrder, toPss, toPs, toP, obound, keyOf, cellInts, elemsOf, nilV, extV, pickV, refs, refsL, isCell, cellsOf, strip1, gdV, pdOk, pdPush, pdTick, Back, cond_true, cond_false, if_true, if_false, forall_const, reduceIte, reduceCtorEq, Int.reduceLE, Int.reduceLT, Int.reduceToNat, Int.reduceNeg, Nat.reduceLT, Nat.reduceEqDiff, Nat.reduceAdd, Nat.reduceSub, Nat.reduceMul, Nat.reduceLeDiff]
  ((repeat refine W_seq ?_); refine W_region0 T_ok ?_)
  by_cases a3 : cellsErr h h.water = 0
  rotate_left
  · simp (maxSteps := 1000000) only [VL, vappend, ↓Gd_none, ↓Gd_t, ↓Gd_f, ev, ofValue, zipEnv, thenQ, blockQ, vfill, inOrder, toPss, toPs, toP, obound, keyOf, cellInts, elemsOf, nilV, extV, pickV, refs, refsL, isCell, cellsOf, strip1, gdV, pdOk, pdPush, pdTick, Back, cond_true, cond_false, if_true, if_false, forall_const, reduceIte, reduceCtorEq, Int.reduceLE, Int.reduceLT, Int.reduceToNat, Int.reduceNeg, Nat.reduceLT, Nat.reduceEqDiff, Nat.reduceAdd, Nat.reduceSub, Nat.reduceMul, Nat.reduceLeDiff, a3]
    ((repeat refine W_seq ?_); refine W_cond (b := true) (by first | rfl | simp only [ev, get_cons, Nat.reduceEqDiff, if_true, if_false, reduceIte]) (fun _ => ?_) (fun h => by cases h))
    ((repeat refine W_seq ?_); refine W_region0 T_ok ?_)
    simp (maxSteps := 1000000) only [VL, vappend, ↓Gd_none, ↓Gd_t, ↓Gd_f, ev, ofValue, zipEnv, thenQ, blockQ, vfill, inOrder, toPss, toPs, toP, obound, keyOf, cellInts, elemsOf, nilV, extV, pickV, refs, refsL, isCell, cellsOf, strip1, gdV, pdOk, pdPush, pdTick, Back, cond_true, cond_false, if_true, if_false, forall_const, reduceIte, reduceCtorEq, Int.reduceLE, Int.reduceLT, Int.reduceToNat, Int.reduceNeg, Nat.reduceLT, Nat.reduceEqDiff, Nat.reduceAdd, Nat.reduceSub, Nat.reduceMul, Nat.reduceLeDiff]
    (repeat refine W_seq ?_)
    refine W_ret ?_
    try simp only [thenQ, blockQ]
    refine own_ret1 rfl ?_ (by rfl)
    simp only [get_cons, frz, vtup, Nat.reduceEqDiff, if_true, if_false, reduceIte]
    rw [e1]; simp [a3]
  simp (maxSteps := 1000000) only [VL, vappend, ↓Gd_none, ↓Gd_t, ↓Gd_f, ev, ofValue, zipEnv, thenQ, blockQ, vfill, inOrder, toPss, toPs, toP, obound, keyOf, cellInts, elemsOf, nilV, extV, pickV, refs, refsL, isCell, cellsOf, strip1, gdV, pdOk, pdPush, pdTick, Back, cond_true, cond_false, if_true, if_false, forall_const, reduceIte, reduceCtorEq, Int.reduceLE, Int.reduceLT, Int.reduceToNat, Int.reduceNeg, Nat.reduceLT, Nat.reduceEqDiff, Nat.reduceAdd, Nat.reduceSub, Nat.reduceMul, Nat.reduceLeDiff, a3]
  ((repeat refine W_seq ?_); refine W_cond (b := false) (by first | rfl | simp only [ev, get_cons, Nat.reduceEqDiff, if_true, if_false, reduceIte]) (fun h => by cases h) (fun _ => ?_))
  ((repeat refine W_seq ?_); refine W_skip ?_)
  simp (maxSteps := 1000000) only [VL, vappend, ↓Gd_none, ↓Gd_t, ↓Gd_f, ev, ofValue, zipEnv, thenQ, blockQ, vfill, inOrder, toPss, toPs, toP, obound, keyOf, cellInts, elemsOf, nilV, extV, pickV, refs, refsL, isCell, cellsOf, strip1, gdV, pdOk, pdPush, pdTick, Back, cond_true, cond_false, if_true, if_false, forall_const, reduceIte, reduceCtorEq, Int.reduceLE, Int.reduceLT, Int.reduceToNat, Int.reduceNeg, Nat.reduceLT, Nat.reduceEqDiff, Nat.reduceAdd, Nat.reduceSub, Nat.reduceMul, Nat.reduceLeDiff]
  ((repeat refine W_seq ?_); refine W_region0 T_ok ?_)
  simp (maxSteps := 1000000) only [VL, vappend, ↓Gd_none, ↓Gd_t, ↓Gd_f, ev, ofValue, zipEnv, thenQ, blockQ, vfill, inOrder, toPss, toPs, toP, obound, keyOf, cellInts, elemsOf, nilV, extV, pickV, refs, refsL, isCell, cellsOf, strip1, gdV, pdOk, pdPush, pdTick, Back, cond_true, cond_false, if_true, if_false, forall_const, reduceIte, reduceCtorEq, Int.reduceLE, Int.reduceLT, Int.reduceToNat, Int.reduceNeg, Nat.reduceLT, Nat.reduceEqDiff, Nat.reduceAdd, Nat.reduceSub, Nat.reduceMul, Nat.reduceLeDiff]
  apply call_eq (f := 55) (fn := Try.f55) (by kernel_rfl) (by rfl)
  · exact checkCells_v' h h.shut _ a1 a2 f2
  simp (maxSteps := 1000000) only [VL, vappend, ↓Gd_none, ↓Gd_t, ↓Gd_f, ev, ofValue, zipEnv, thenQ, blockQ, vfill, inOrder, toPss, toPs, toP, obound, keyOf, cellInts, elemsOf, nilV, extV, pickV, refs, refsL, isCell, cellsOf, strip1, gdV, pdOk, pdPush, pdTick, Back, cond_true, cond_false, if_true, if_false, forall_const, reduceIte, reduceCtorEq, Int.reduceLE, Int.reduceLT, Int.reduceToNat, Int.reduceNeg, Nat.reduceLT, Nat.reduceEqDiff, Nat.reduceAdd, Nat.reduceSub, Nat.reduceMul, Nat.reduceLeDiff]
  ((repeat refine W_seq ?_); refine W_region0 T_ok ?_)
  by_cases a4 : cellsErr h h.shut = 0
  rotate_left
  · simp (maxSteps := 1000000) only [VL, vappend, ↓Gd_none, ↓Gd_t, ↓Gd_f, ev, ofValue, zipEnv, thenQ, blockQ, vfill, inOrder, toPss, toPs, toP, obound, keyOf, cellInts, elemsOf, nilV, extV, pickV, refs, refsL, isCell, cellsOf, strip1, gdV, pdOk, pdPush, pdTick, Back, cond_true, cond_false, if_true, if_false, forall_const, reduceIte, reduceCtorEq, Int.reduceLE, Int.reduceLT, Int.reduceToNat, Int.reduceNeg, Nat.reduceLT, Nat.reduceEqDiff, Nat.reduceAdd, Nat.reduceSub, Nat.reduceMul, Nat.reduceLeDiff, a4]
    ((repeat refine W_seq ?_); refine W_cond (b := true) (by first | rfl | simp only [ev, get_cons, Nat.reduceEqDiff, if_true, if_false, reduceIte]) (fun _ => ?_) (fun h => by cases h))
    ((repeat refine W_seq ?_); refine W_region0 T_ok ?_)
    simp (maxSteps := 1000000) only [VL, vappend, ↓Gd_none, ↓Gd_t, ↓Gd_f, ev, ofValue, zipEnv, thenQ, blockQ, vfill, inOrder, toPss, toPs, toP, obound, keyOf, cellInts, elemsOf, nilV, extV, pickV, refs, refsL, isCell, cellsOf, strip1, gdV, pdOk, pdPush, pdTick, Back, cond_true, cond_false, if_true, if_false, forall_const, reduceIte, reduceCtorEq, Int.reduceLE, Int.reduceLT, Int.reduceToNat, Int.reduceNeg, Nat.reduceLT, Nat.reduceEqDiff, Nat.reduceAdd, Nat.reduceSub, Nat.reduceMul, Nat.reduceLeDiff]
    (repeat refine W_seq ?_)
    refine W_ret ?_
    try simp only [thenQ, blockQ]
    refine own_ret1 rfl ?_ (by rfl)
    simp only [get_cons, frz, vtup, Nat.reduceEqDiff, if_true, if_false, reduceIte]
    rw [e1]; simp [a3, a4]
  simp (maxSteps := 1000000) only [VL, vappend, ↓Gd_none, ↓Gd_t, ↓Gd_f, ev, ofValue, zipEnv, thenQ, blockQ, vfill, inOrder, toPss, toPs, toP, obound, keyOf, cellInts, elemsOf, nilV, extV, pickV, refs, refsL, isCell, cellsOf, strip1, gdV, pdOk, pdPush, pdTick, Back, cond_true, cond_false, if_true, if_false, forall_const, reduceIte, reduceCtorEq, Int.reduceLE, Int.reduceLT, Int.reduceToNat, Int.reduceNeg, Nat.reduceLT, Nat.reduceEqDiff, Nat.reduceAdd, Nat.reduceSub, Nat.reduceMul, Nat.reduceLeDiff, a4]
  ((repeat refine W_seq ?_); refine W_cond (b := false) (by first | rfl | simp only [ev, get_cons, Nat.reduceEqDiff, if_true, if_false, reduceIte]) (fun h => by cases h) (fun _ => ?_))
  ((repeat refine W_seq ?_); refine W_skip ?_)
  simp (maxSteps := 1000000) only [VL, vappend, ↓Gd_none, ↓Gd_t, ↓Gd_f, ev, ofValue, zipEnv, thenQ, blockQ, vfill, inOrder, toPss, toPs, toP, obound, keyOf, cellInts, elemsOf, nilV, extV, pickV, refs, refsL, isCell, cellsOf, strip1, gdV, pdOk, pdPush, pdTick, Back, cond_true, cond_false, if_true, if_false, forall_const, reduceIte, reduceCtorEq, Int.reduceLE, Int.reduceLT, Int.reduceToNat, Int.reduceNeg, Nat.reduceLT, Nat.reduceEqDiff, Nat.reduceAdd, Nat.reduceSub, Nat.reduceMul, Nat.reduceLeDiff]
  ((repeat refine W_seq ?_); refine W_region0 T_ok ?_)
  simp (maxSteps := 1000000) only [VL, vappend, ↓Gd_none, ↓Gd_t, ↓Gd_f, ev, ofValue, zipEnv, thenQ, blockQ, vfill, inOrder, toPss, toPs, toP, obound, keyOf, cellInts, elemsOf, nilV, extV, pickV, refs, refsL, isCell, cellsOf, strip1, gdV, pdOk, pdPush, pdTick, Back, cond_true, cond_false, if_true, if_false, forall_const, reduceIte, reduceCtorEq, Int.reduceLE, Int.reduceLT, Int.reduceToNat, Int.reduceNeg, Nat.reduceLT, Nat.reduceEqDiff, Nat.reduceAdd, Nat.reduceSub, Nat.reduceMul, Nat.reduceLeDiff]
  apply call_eq (f := 54) (fn := Try.f54) (by kernel_rfl) (by rfl)
  · exact within_v _ _ _ _
  cases a5 : inR h.bay.x 1 h.wide
  · simp (maxSteps := 1000000) only [VL, vappend, ↓Gd_none, ↓Gd_t, ↓Gd_f, ev, ofValue, zipEnv, thenQ, blockQ, vfill, inOrder, toPss, toPs, toP, obound, keyOf, cellInts, elemsOf, nilV, extV, pickV, refs, refsL, isCell, cellsOf, strip1, gdV, pdOk, pdPush, pdTick, Back, cond_true, cond_false, if_true, if_false, forall_const, reduceIte, reduceCtorEq, Int.reduceLE, Int.reduceLT, Int.reduceToNat, Int.reduceNeg, Nat.reduceLT, Nat.reduceEqDiff, Nat.reduceAdd, Nat.reduceSub, Nat.reduceMul, Nat.reduceLeDiff]
    ((repeat refine W_seq ?_); refine W_cond (b := true) (by first | rfl | simp only [ev, get_cons, Nat.reduceEqDiff, if_true, if_false, reduceIte]) (fun _ => ?_) (fun h => by cases h))
    ((repeat refine W_seq ?_); refine W_region0 T_ok ?_)
    simp (maxSteps := 1000000) only [VL, vappend, ↓Gd_none, ↓Gd_t, ↓Gd_f, ev, ofValue, zipEnv, thenQ, blockQ, vfill, inOrder, toPss, toPs, toP, obound, keyOf, cellInts, elemsOf, nilV, extV, pickV, refs, refsL, isCell, cellsOf, strip1, gdV, pdOk, pdPush, pdTick, Back, cond_true, cond_false, if_true, if_false, forall_const, reduceIte, reduceCtorEq, Int.reduceLE, Int.reduceLT, Int.reduceToNat, Int.reduceNeg, Nat.reduceLT, Nat.reduceEqDiff, Nat.reduceAdd, Nat.reduceSub, Nat.reduceMul, Nat.reduceLeDiff]
    (repeat refine W_seq ?_)
    refine W_ret ?_
    try simp only [thenQ, blockQ]
    refine own_ret1 rfl ?_ (by rfl)
    simp only [get_cons, frz, vtup, Nat.reduceEqDiff, if_true, if_false, reduceIte]
    rw [e1, a5]; simp [a3, a4]
  simp (maxSteps := 1000000) only [VL, vappend, ↓Gd_none, ↓Gd_t, ↓Gd_f, ev, ofValue, zipEnv, thenQ, blockQ, vfill, inOrder, toPss, toPs, toP, obound, keyOf, cellInts, elemsOf, nilV, extV, pickV, refs, refsL, isCell, cellsOf, strip1, gdV, pdOk, pdPush, pdTick, Back, cond_true, cond_false, if_true, if_false, forall_const, reduceIte, reduceCtorEq, Int.reduceLE, Int.reduceLT, Int.reduceToNat, Int.reduceNeg, Nat.reduceLT, Nat.reduceEqDiff, Nat.reduceAdd, Nat.reduceSub, Nat.reduceMul, Nat.reduceLeDiff]
  apply call_eq (f := 54) (fn := Try.f54) (by kernel_rfl) (by rfl)
  · exact within_v _ _ _ _
  cases a6 : inR h.bay.y 1 h.deep
  · simp (maxSteps := 1000000) only [VL, vappend, ↓Gd_none, ↓Gd_t, ↓Gd_f, ev, ofValue, zipEnv, thenQ, blockQ, vfill, inOrder, toPss, toPs, toP, obound, keyOf, cellInts, elemsOf, nilV, extV, pickV, refs, refsL, isCell, cellsOf, strip1, gdV, pdOk, pdPush, pdTick, Back, cond_true, cond_false, if_true, if_false, forall_const, reduceIte, reduceCtorEq, Int.reduceLE, Int.reduceLT, Int.reduceToNat, Int.reduceNeg, Nat.reduceLT, Nat.reduceEqDiff, Nat.reduceAdd, Nat.reduceSub, Nat.reduceMul, Nat.reduceLeDiff]
    ((repeat refine W_seq ?_); refine W_cond (b := true) (by first | rfl | simp only [ev, get_cons, Nat.reduceEqDiff, if_true, if_false, reduceIte]) (fun _ => ?_) (fun h => by cases h))
    ((repeat refine W_seq ?_); refine W_region0 T_ok ?_)
    simp (maxSteps := 1000000) only [VL, vappend, ↓Gd_none, ↓Gd_t, ↓Gd_f, ev, ofValue, zipEnv, thenQ, blockQ, vfill, inOrder, toPss, toPs, toP, obound, keyOf, cellInts, elemsOf, nilV, extV, pickV, refs, refsL, isCell, cellsOf, strip1, gdV, pdOk, pdPush, pdTick, Back, cond_true, cond_false, if_true, if_false, forall_const, reduceIte, reduceCtorEq, Int.reduceLE, Int.reduceLT, Int.reduceToNat, Int.reduceNeg, Nat.reduceLT, Nat.reduceEqDiff, Nat.reduceAdd, Nat.reduceSub, Nat.reduceMul, Nat.reduceLeDiff]
    (repeat refine W_seq ?_)
    refine W_ret ?_
    try simp only [thenQ, blockQ]
    refine own_ret1 rfl ?_ (by rfl)
    simp only [get_cons, frz, vtup, Nat.reduceEqDiff, if_true, if_false, reduceIte]
    rw [e1, a5, a6]; simp [a3, a4]
  have S := Small.mk' a1 a2 a5 a6
  simp (maxSteps := 1000000) only [VL, vappend, ↓Gd_none, ↓Gd_t, ↓Gd_f, ev, ofValue, zipEnv, thenQ, blockQ, vfill, inOrder, toPss, toPs, toP, obound, keyOf, cellInts, elemsOf, nilV, extV, pickV, refs, refsL, isCell, cellsOf, strip1, gdV, pdOk, pdPush, pdTick, Back, cond_true, cond_false, if_true, if_false, forall_const, reduceIte, reduceCtorEq, Int.reduceLE, Int.reduceLT, Int.reduceToNat, Int.reduceNeg, Nat.reduceLT, Nat.reduceEqDiff, Nat.reduceAdd, Nat.reduceSub, Nat.reduceMul, Nat.reduceLeDiff]
  ((repeat refine W_seq ?_); refine W_cond (b := false) (by first | rfl | simp only [ev, get_cons, Nat.reduceEqDiff, if_true, if_false, reduceIte]) (fun h => by cases h) (fun _ => ?_))
  ((repeat refine W_seq ?_); refine W_skip ?_)
  simp (maxSteps := 1000000) only [VL, vappend, ↓Gd_none, ↓Gd_t, ↓Gd_f, ev, ofValue, zipEnv, thenQ, blockQ, vfill, inOrder, toPss, toPs, toP, obound, keyOf, cellInts, elemsOf, nilV, extV, pickV, refs, refsL, isCell, cellsOf, strip1, gdV, pdOk, pdPush, pdTick, Back, cond_true, cond_false, if_true, if_false, forall_const, reduceIte, reduceCtorEq, Int.reduceLE, Int.reduceLT, Int.reduceToNat, Int.reduceNeg, Nat.reduceLT, Nat.reduceEqDiff, Nat.reduceAdd, Nat.reduceSub, Nat.reduceMul, Nat.reduceLeDiff]
  (repeat refine W_seq ?_)
  refine W_drawP T_ok [] (by kernel_rfl) (by kernel_rfl) ?_
  generalize hi : mkPlan _ = infs
  cbv at hi
  subst hi
  simp (maxSteps := 1000000) only [VL, vappend, ↓Gd_none, ↓Gd_t, ↓Gd_f, ev, ofValue, zipEnv, thenQ, blockQ, vfill, inOrder, toPss, toPs, toP, obound, keyOf, cellInts, elemsOf, nilV, extV, pickV, refs, refsL, isCell, cellsOf, strip1, gdV, pdOk, pdPush, pdTick, Back, cond_true, cond_false, if_true, if_false, forall_const, reduceIte, reduceCtorEq, Int.reduceLE, Int.reduceLT, Int.reduceToNat, Int.reduceNeg, Nat.reduceLT, Nat.reduceEqDiff, Nat.reduceAdd, Nat.reduceSub, Nat.reduceMul, Nat.reduceLeDiff]
  apply call_d (f := 47) (fn := Try.f47) (by kernel_rfl) (by rfl)
  · exact bays_v h _ S
  by_cases a7 : (h.bears.length : Int) = baysOf h
  rotate_left
  · simp (maxSteps := 1000000) only [VL, vappend, ↓Gd_none, ↓Gd_t, ↓Gd_f, ev, ofValue, zipEnv, thenQ, blockQ, vfill, inOrder, toPss, toPs, toP, obound, keyOf, cellInts, elemsOf, nilV, extV, pickV, refs, refsL, isCell, cellsOf, strip1, gdV, pdOk, pdPush, pdTick, Back, cond_true, cond_false, if_true, if_false, forall_const, reduceIte, reduceCtorEq, Int.reduceLE, Int.reduceLT, Int.reduceToNat, Int.reduceNeg, Nat.reduceLT, Nat.reduceEqDiff, Nat.reduceAdd, Nat.reduceSub, Nat.reduceMul, Nat.reduceLeDiff, a7]
    ((repeat refine W_seq ?_); refine W_cond (b := true) (by first | rfl | simp only [ev, get_cons, Nat.reduceEqDiff, if_true, if_false, reduceIte]) (fun _ => ?_) (fun h => by cases h))
    ((repeat refine W_seq ?_); refine W_region0 T_ok ?_)
    simp (maxSteps := 1000000) only [VL, vappend, ↓Gd_none, ↓Gd_t, ↓Gd_f, ev, ofValue, zipEnv, thenQ, blockQ, vfill, inOrder, toPss, toPs, toP, obound, keyOf, cellInts, elemsOf, nilV, extV, pickV, refs, refsL, isCell, cellsOf, strip1, gdV, pdOk, pdPush, pdTick, Back, cond_true, cond_false, if_true, if_false, forall_const, reduceIte, reduceCtorEq, Int.reduceLE, Int.reduceLT, Int.reduceToNat, Int.reduceNeg, Nat.reduceLT, Nat.reduceEqDiff, Nat.reduceAdd, Nat.reduceSub, Nat.reduceMul, Nat.reduceLeDiff]
    (repeat refine W_seq ?_)
    refine W_ret ?_
    try simp only [thenQ, blockQ]
    refine own_ret1 rfl ?_ (by rfl)
    simp only [get_cons, frz, vtup, Nat.reduceEqDiff, if_true, if_false, reduceIte]
    rw [e1, a5, a6]; simp [a3, a4, a7]
  simp (maxSteps := 1000000) only [VL, vappend, ↓Gd_none, ↓Gd_t, ↓Gd_f, ev, ofValue, zipEnv, thenQ, blockQ, vfill, inOrder, toPss, toPs, toP, obound, keyOf, cellInts, elemsOf, nilV, extV, pickV, refs, refsL, isCell, cellsOf, strip1, gdV, pdOk, pdPush, pdTick, Back, cond_true, cond_false, if_true, if_false, forall_const, reduceIte, reduceCtorEq, Int.reduceLE, Int.reduceLT, Int.reduceToNat, Int.reduceNeg, Nat.reduceLT, Nat.reduceEqDiff, Nat.reduceAdd, Nat.reduceSub, Nat.reduceMul, Nat.reduceLeDiff, a7]
  ((repeat refine W_seq ?_); refine W_cond (b := false) (by first | rfl | simp only [ev, get_cons, Nat.reduceEqDiff, if_true, if_false, reduceIte]) (fun h => by cases h) (fun _ => ?_))
  ((repeat refine W_seq ?_); refine W_skip ?_)
  simp (maxSteps := 1000000) only [VL, vappend, ↓Gd_none, ↓Gd_t, ↓Gd_f, ev, ofValue, zipEnv, thenQ, blockQ, vfill, inOrder, toPss, toPs, toP, obound, keyOf, cellInts, elemsOf, nilV, extV, pickV, refs, refsL, isCell, cellsOf, strip1, gdV, pdOk, pdPush, pdTick, Back, cond_true, cond_false, if_true, if_false, forall_const, reduceIte, reduceCtorEq, Int.reduceLE, Int.reduceLT, Int.reduceToNat, Int.reduceNeg, Nat.reduceLT, Nat.reduceEqDiff, Nat.reduceAdd, Nat.reduceSub, Nat.reduceMul, Nat.reduceLeDiff]
  ((repeat refine W_seq ?_); refine W_region0 T_ok ?_)
  simp (maxSteps := 1000000) only [VL, vappend, ↓Gd_none, ↓Gd_t, ↓Gd_f, ev, ofValue, zipEnv, thenQ, blockQ, vfill, inOrder, toPss, toPs, toP, obound, keyOf, cellInts, elemsOf, nilV, extV, pickV, refs, refsL, isCell, cellsOf, strip1, gdV, pdOk, pdPush, pdTick, Back, cond_true, cond_false, if_true, if_false, forall_const, reduceIte, reduceCtorEq, Int.reduceLE, Int.reduceLT, Int.reduceToNat, Int.reduceNeg, Nat.reduceLT, Nat.reduceEqDiff, Nat.reduceAdd, Nat.reduceSub, Nat.reduceMul, Nat.reduceLeDiff]
  ((repeat refine W_seq ?_); refine W_block ?_; (repeat refine W_seq ?_)); refine W_loopS (fun i : Nat => [(0, hallV h), (1, VV.ptr M.H.length 0), (5, vi i)]) (fun _ => ⟨M.H ++ [VObj.obj (hallC h)], M.lg⟩) (fun i => h.bears.length - i) (fun i => i ≤ h.bears.length ∧ (h.bears.take i).any (fun n => !inR n 0 10000000) = false) 0 ⟨Nat.zero_le _, by simp⟩ ⟨rfl, rfl, rfl, trivial⟩ rfl ?_
  rintro i ⟨hi, hno⟩
  have k1 : -9223372036854775808 ≤ (i : Int) + 1 ∧ (i : Int) + 1 < 9223372036854775808 := by omega
  ((repeat refine W_seq ?_); refine W_region0 T_ok ?_)
  rcases Nat.lt_or_ge i h.bears.length with hlt | hge
  · have k2 : ((i : Int) < (h.bears.length : Int)) = True := eq_true (by omega)
    have hx : h.bears[i]? = some h.bears[i] := List.getElem?_eq_getElem hlt
    have hx' := map_at (f := intP) hx
    generalize hd : h.bears[i] = d at hx hx'
    simp (maxSteps := 1000000) only [VL, vappend, ↓Gd_none, ↓Gd_t, ↓Gd_f, ev, ofValue, zipEnv, thenQ, blockQ, vfill, inOrder, toPss, toPs, toP, obound, keyOf, cellInts, elemsOf, nilV, extV, pickV, refs, refsL, isCell, cellsOf, strip1, gdV, pdOk, pdPush, pdTick, Back, cond_true, cond_false, if_true, if_false, forall_const, reduceIte, reduceCtorEq, Int.reduceLE, Int.reduceLT, Int.reduceToNat, Int.reduceNeg, Nat.reduceLT, Nat.reduceEqDiff, Nat.reduceAdd, Nat.reduceSub, Nat.reduceMul, Nat.reduceLeDiff, k2]
    ((repeat refine W_seq ?_); refine W_cond (b := true) (by first | rfl | simp only [ev, get_cons, Nat.reduceEqDiff, if_true, if_false, reduceIte]) (fun _ => ?_) (fun h => by cases h))
    ((repeat refine W_seq ?_); refine W_skip ?_)
    simp (maxSteps := 1000000) only [VL, vappend, ↓Gd_none, ↓Gd_t, ↓Gd_f, ev, ofValue, zipEnv, thenQ, blockQ, vfill, inOrder, toPss, toPs, toP, obound, keyOf, cellInts, elemsOf, nilV, extV, pickV, refs, refsL, isCell, cellsOf, strip1, gdV, pdOk, pdPush, pdTick, Back, cond_true, cond_false, if_true, if_false, forall_const, reduceIte, reduceCtorEq, Int.reduceLE, Int.reduceLT, Int.reduceToNat, Int.reduceNeg, Nat.reduceLT, Nat.reduceEqDiff, Nat.reduceAdd, Nat.reduceSub, Nat.reduceMul, Nat.reduceLeDiff]
    ((repeat refine W_seq ?_); refine W_block ?_)
    ((repeat refine W_seq ?_); refine W_region0 T_ok ?_)
    simp (maxSteps := 1000000) only [VL, vappend, ↓Gd_none, ↓Gd_t, ↓Gd_f, ev, ofValue, zipEnv, thenQ, blockQ, vfill, inOrder, toPss, toPs, toP, obound, keyOf, cellInts, elemsOf, nilV, extV, pickV, refs, refsL, isCell, cellsOf, strip1, gdV, pdOk, pdPush, pdTick, Back, cond_true, cond_false, if_true, if_false, forall_const, reduceIte, reduceCtorEq, Int.reduceLE, Int.reduceLT, Int.reduceToNat, Int.reduceNeg, Nat.reduceLT, Nat.reduceEqDiff, Nat.reduceAdd, Nat.reduceSub, Nat.reduceMul, Nat.reduceLeDiff, hx']
    apply call_eq (f := 54) (fn := Try.f54) (by kernel_rfl) (by rfl)
    · exact within_v _ _ _ _
    cases hp : inR d 0 10000000
    · simp (maxSteps := 1000000) only [VL, vappend, ↓Gd_none, ↓Gd_t, ↓Gd_f, ev, ofValue, zipEnv, thenQ, blockQ, vfill, inOrder, toPss, toPs, toP, obound, keyOf, cellInts, elemsOf, nilV, extV, pickV, refs, refsL, isCell, cellsOf, strip1, gdV, pdOk, pdPush, pdTick, Back, cond_true, cond_false, if_true, if_false, forall_const, reduceIte, reduceCtorEq, Int.reduceLE, Int.reduceLT, Int.reduceToNat, Int.reduceNeg, Nat.reduceLT, Nat.reduceEqDiff, Nat.reduceAdd, Nat.reduceSub, Nat.reduceMul, Nat.reduceLeDiff]
      ((repeat refine W_seq ?_); refine W_cond (b := true) (by first | rfl | simp only [ev, get_cons, Nat.reduceEqDiff, if_true, if_false, reduceIte]) (fun _ => ?_) (fun h => by cases h))
      ((repeat refine W_seq ?_); refine W_region0 T_ok ?_)
      simp (maxSteps := 1000000) only [VL, vappend, ↓Gd_none, ↓Gd_t, ↓Gd_f, ev, ofValue, zipEnv, thenQ, blockQ, vfill, inOrder, toPss, toPs, toP, obound, keyOf, cellInts, elemsOf, nilV, extV, pickV, refs, refsL, isCell, cellsOf, strip1, gdV, pdOk, pdPush, pdTick, Back, cond_true, cond_false, if_true, if_false, forall_const, reduceIte, reduceCtorEq, Int.reduceLE, Int.reduceLT, Int.reduceToNat, Int.reduceNeg, Nat.reduceLT, Nat.reduceEqDiff, Nat.reduceAdd, Nat.reduceSub, Nat.reduceMul, Nat.reduceLeDiff]
      (repeat refine W_seq ?_)
      refine W_ret ?_
      try simp only [thenQ, blockQ]
      refine own_ret1 rfl ?_ (by rfl)
      simp only [get_cons, frz, vtup, Nat.reduceEqDiff, if_true, if_false, reduceIte]
      have a8 := any_hit (fun n => !inR n 0 10000000) h.bears i d hx (by simp [hp])
      rw [e1, a5, a6, a8]; simp [a3, a4, a7]
    · simp (maxSteps := 1000000) only [VL, vappend, ↓Gd_none, ↓Gd_t, ↓Gd_f, ev, ofValue, zipEnv, thenQ, blockQ, vfill, inOrder, toPss, toPs, toP, obound, keyOf, cellInts, elemsOf, nilV, extV, pickV, refs, refsL, isCell, cellsOf, strip1, gdV, pdOk, pdPush, pdTick, Back, cond_true, cond_false, if_true, if_false, forall_const, reduceIte, reduceCtorEq, Int.reduceLE, Int.reduceLT, Int.reduceToNat, Int.reduceNeg, Nat.reduceLT, Nat.reduceEqDiff, Nat.reduceAdd, Nat.reduceSub, Nat.reduceMul, Nat.reduceLeDiff]
      ((repeat refine W_seq ?_); refine W_cond (b := false) (by first | rfl | simp only [ev, get_cons, Nat.reduceEqDiff, if_true, if_false, reduceIte]) (fun h => by cases h) (fun _ => ?_))
      ((repeat refine W_seq ?_); refine W_skip ?_)
      simp (maxSteps := 1000000) only [VL, vappend, ↓Gd_none, ↓Gd_t, ↓Gd_f, ev, ofValue, zipEnv, thenQ, blockQ, vfill, inOrder, toPss, toPs, toP, obound, keyOf, cellInts, elemsOf, nilV, extV, pickV, refs, refsL, isCell, cellsOf, strip1, gdV, pdOk, pdPush, pdTick, Back, cond_true, cond_false, if_true, if_false, forall_const, reduceIte, reduceCtorEq, Int.reduceLE, Int.reduceLT, Int.reduceToNat, Int.reduceNeg, Nat.reduceLT, Nat.reduceEqDiff, Nat.reduceAdd, Nat.reduceSub, Nat.reduceMul, Nat.reduceLeDiff]
      ((repeat refine W_seq ?_); refine W_region0 T_ok ?_)
      simp (maxSteps := 1000000) only [VL, vappend, ↓Gd_none, ↓Gd_t, ↓Gd_f, ev, ofValue, zipEnv, thenQ, blockQ, vfill, inOrder, toPss, toPs, toP, obound, keyOf, cellInts, elemsOf, nilV, extV, pickV, refs, refsL, isCell, cellsOf, strip1, gdV, pdOk, pdPush, pdTick, Back, cond_true, cond_false, if_true, if_false, forall_const, reduceIte, reduceCtorEq, Int.reduceLE, Int.reduceLT, Int.reduceToNat, Int.reduceNeg, Nat.reduceLT, Nat.reduceEqDiff, Nat.reduceAdd, Nat.reduceSub, Nat.reduceMul, Nat.reduceLeDiff, k1]
      refine LoopK.mk (i + 1) (by omega) ⟨by omega, ?_⟩ ⟨rfl, rfl, rfl, trivial⟩ rfl
      rw [any_take _ _ i _ hx, hno, hp]; rfl
  have k2 : ((i : Int) < (h.bears.length : Int)) = False := eq_false (by omega)
  obtain rfl : i = h.bears.length := by omega
  rw [List.take_length] at hno
  have a8 := hno
  clear hno k1
  simp (maxSteps := 1000000) only [VL, vappend, ↓Gd_none, ↓Gd_t, ↓Gd_f, ev, ofValue, zipEnv, thenQ, blockQ, vfill, inOrder, toPss, toPs, toP, obound, keyOf, cellInts, elemsOf, nilV, extV, pickV, refs, refsL, isCell, cellsOf, strip1, gdV, pdOk, pdPush, pdTick, Back, cond_true, cond_false, if_true, if_false, forall_const, reduceIte, reduceCtorEq, Int.reduceLE, Int.reduceLT, Int.reduceToNat, Int.reduceNeg, Nat.reduceLT, Nat.reduceEqDiff, Nat.reduceAdd, Nat.reduceSub, Nat.reduceMul, Nat.reduceLeDiff, k2]
  ((repeat refine W_seq ?_); refine W_cond (b := false) (by first | rfl | simp only [ev, get_cons, Nat.reduceEqDiff, if_true, if_false, reduceIte]) (fun h => by cases h) (fun _ => ?_))
  ((repeat refine W_seq ?_); refine W_exit ?_)
  simp (maxSteps := 1000000) only [VL, vappend, ↓Gd_none, ↓Gd_t, ↓Gd_f, ev, ofValue, zipEnv, thenQ, blockQ, vfill, inOrder, toPss, toPs, toP, obound, keyOf, cellInts, elemsOf, nilV, extV, pickV, refs, refsL, isCell, cellsOf, strip1, gdV, pdOk, pdPush, pdTick, Back, cond_true, cond_false, if_true, if_false, forall_const, reduceIte, reduceCtorEq, Int.reduceLE, Int.reduceLT, Int.reduceToNat, Int.reduceNeg, Nat.reduceLT, Nat.reduceEqDiff, Nat.reduceAdd, Nat.reduceSub, Nat.reduceMul, Nat.reduceLeDiff]
  ((repeat refine W_seq ?_); refine W_region0 T_ok ?_)
  by_cases a9 : h.kinds.length = 0
  · have a9' : ((h.kinds.length : Int) = 0) = True := eq_true (by omega)
    simp (maxSteps := 1000000) only [VL, vappend, ↓Gd_none, ↓Gd_t, ↓Gd_f, ev, ofValue, zipEnv, thenQ, blockQ, vfill, inOrder, toPss, toPs, toP, obound, keyOf, cellInts, elemsOf, nilV, extV, pickV, refs, refsL, isCell, cellsOf, strip1, gdV, pdOk, pdPush, pdTick, Back, cond_true, cond_false, if_true, if_false, forall_const, reduceIte, reduceCtorEq, Int.reduceLE, Int.reduceLT, Int.reduceToNat, Int.reduceNeg, Nat.reduceLT, Nat.reduceEqDiff, Nat.reduceAdd, Nat.reduceSub, Nat.reduceMul, Nat.reduceLeDiff, a9']
    ((repeat refine W_seq ?_); refine W_cond (b := true) (by first | rfl | simp only [ev, get_cons, Nat.reduceEqDiff, if_true, if_false, reduceIte]) (fun _ => ?_) (fun h => by cases h))
    ((repeat refine W_seq ?_); refine W_region0 T_ok ?_)
    simp (maxSteps := 1000000) only [VL, vappend, ↓Gd_none, ↓Gd_t, ↓Gd_f, ev, ofValue, zipEnv, thenQ, blockQ, vfill, inOrder, toPss, toPs, toP, obound, keyOf, cellInts, elemsOf, nilV, extV, pickV, refs, refsL, isCell, cellsOf, strip1, gdV, pdOk, pdPush, pdTick, Back, cond_true, cond_false, if_true, if_false, forall_const, reduceIte, reduceCtorEq, Int.reduceLE, Int.reduceLT, Int.reduceToNat, Int.reduceNeg, Nat.reduceLT, Nat.reduceEqDiff, Nat.reduceAdd, Nat.reduceSub, Nat.reduceMul, Nat.reduceLeDiff]
    (repeat refine W_seq ?_)
    refine W_ret ?_
    try simp only [thenQ, blockQ]
    refine own_ret1 rfl ?_ (by rfl)
    simp only [get_cons, frz, vtup, Nat.reduceEqDiff, if_true, if_false, reduceIte]
    rw [e1, a5, a6, a8]; simp [a3, a4, a7, a9]
  have a9' : ((h.kinds.length : Int) = 0) = False := eq_false (by omega)
  simp (maxSteps := 1000000) only [VL, vappend, ↓Gd_none, ↓Gd_t, ↓Gd_f, ev, ofValue, zipEnv, thenQ, blockQ, vfill, inOrder, toPss, toPs, toP, obound, keyOf, cellInts, elemsOf, nilV, extV, pickV, refs, refsL, isCell, cellsOf, strip1, gdV, pdOk, pdPush, pdTick, Back, cond_true, cond_false, if_true, if_false, forall_const, reduceIte, reduceCtorEq, Int.reduceLE, Int.reduceLT, Int.reduceToNat, Int.reduceNeg, Nat.reduceLT, Nat.reduceEqDiff, Nat.reduceAdd, Nat.reduceSub, Nat.reduceMul, Nat.reduceLeDiff, a9']
  ((repeat refine W_seq ?_); refine W_cond (b := false) (by first | rfl | simp only [ev, get_cons, Nat.reduceEqDiff, if_true, if_false, reduceIte]) (fun h => by cases h) (fun _ => ?_))
  ((repeat refine W_seq ?_); refine W_skip ?_)
  simp (maxSteps := 1000000) only [VL, vappend, ↓Gd_none, ↓Gd_t, ↓Gd_f, ev, ofValue, zipEnv, thenQ, blockQ, vfill, inOrder, toPss, toPs, toP, obound, keyOf, cellInts, elemsOf, nilV, extV, pickV, refs, refsL, isCell, cellsOf, strip1, gdV, pdOk, pdPush, pdTick, Back, cond_true, cond_false, if_true, if_false, forall_const, reduceIte, reduceCtorEq, Int.reduceLE, Int.reduceLT, Int.reduceToNat, Int.reduceNeg, Nat.reduceLT, Nat.reduceEqDiff, Nat.reduceAdd, Nat.reduceSub, Nat.reduceMul, Nat.reduceLeDiff]
  ((repeat refine W_seq ?_); refine W_region0 T_ok ?_)
  by_cases b1 : 6 < h.kinds.length
  · have b1' : ((6 : Int) < (h.kinds.length : Int)) = True := eq_true (by omega)
    simp (maxSteps := 1000000) only [VL, vappend, ↓Gd_none, ↓Gd_t, ↓Gd_f, ev, ofValue, zipEnv, thenQ, blockQ, vfill, inOrder, toPss, toPs, toP, obound, keyOf, cellInts, elemsOf, nilV, extV, pickV, refs, refsL, isCell, cellsOf, strip1, gdV, pdOk, pdPush, pdTick, Back, cond_true, cond_false, if_true, if_false, forall_const, reduceIte, reduceCtorEq, Int.reduceLE, Int.reduceLT, Int.reduceToNat, Int.reduceNeg, Nat.reduceLT, Nat.reduceEqDiff, Nat.reduceAdd, Nat.reduceSub, Nat.reduceMul, Nat.reduceLeDiff, b1']
    ((repeat refine W_seq ?_); refine W_cond (b := true) (by first | rfl | simp only [ev, get_cons, Nat.reduceEqDiff, if_true, if_false, reduceIte]) (fun _ => ?_) (fun h => by cases h))
    ((repeat refine W_seq ?_); refine W_region0 T_ok ?_)
    simp (maxSteps := 1000000) only [VL, vappend, ↓Gd_none, ↓Gd_t, ↓Gd_f, ev, ofValue, zipEnv, thenQ, blockQ, vfill, inOrder, toPss, toPs, toP, obound, keyOf, cellInts, elemsOf, nilV, extV, pickV, refs, refsL, isCell, cellsOf, strip1, gdV, pdOk, pdPush, pdTick, Back, cond_true, cond_false, if_true, if_false, forall_const, reduceIte, reduceCtorEq, Int.reduceLE, Int.reduceLT, Int.reduceToNat, Int.reduceNeg, Nat.reduceLT, Nat.reduceEqDiff, Nat.reduceAdd, Nat.reduceSub, Nat.reduceMul, Nat.reduceLeDiff]
    (repeat refine W_seq ?_)
    refine W_ret ?_
    try simp only [thenQ, blockQ]
    refine own_ret1 rfl ?_ (by rfl)
    simp only [get_cons, frz, vtup, Nat.reduceEqDiff, if_true, if_false, reduceIte]
    rw [e1, a5, a6, a8]; simp [a3, a4, a7, a9, b1]
  have b1' : ((6 : Int) < (h.kinds.length : Int)) = False := eq_false (by omega)
  have e2 : hallErr h = firstErr (kindErrAt h) h.kinds.length := by rw [e1, a5, a6, a8]; simp [a3, a4, a7, a9, b1]
  clear e1
  simp (maxSteps := 1000000) only [VL, vappend, ↓Gd_none, ↓Gd_t, ↓Gd_f, ev, ofValue, zipEnv, thenQ, blockQ, vfill, inOrder, toPss, toPs, toP, obound, keyOf, cellInts, elemsOf, nilV, extV, pickV, refs, refsL, isCell, cellsOf, strip1, gdV, pdOk, pdPush, pdTick, Back, cond_true, cond_false, if_true, if_false, forall_const, reduceIte, reduceCtorEq, Int.reduceLE, Int.reduceLT, Int.reduceToNat, Int.reduceNeg, Nat.reduceLT, Nat.reduceEqDiff, Nat.reduceAdd, Nat.reduceSub, Nat.reduceMul, Nat.reduceLeDiff, b1']
  ((repeat refine W_seq ?_); refine W_cond (b := false) (by first | rfl | simp only [ev, get_cons, Nat.reduceEqDiff, if_true, if_false, reduceIte]) (fun h => by cases h) (fun _ => ?_))
  ((repeat refine W_seq ?_); refine W_skip ?_)
  simp (maxSteps := 1000000) only [VL, vappend, ↓Gd_none, ↓Gd_t, ↓Gd_f, ev, ofValue, zipEnv, thenQ, blockQ, vfill, inOrder, toPss, toPs, toP, obound, keyOf, cellInts, elemsOf, nilV, extV, pickV, refs, refsL, isCell, cellsOf, strip1, gdV, pdOk, pdPush, pdTick, Back, cond_true, cond_false, if_true, if_false, forall_const, reduceIte, reduceCtorEq, Int.reduceLE, Int.reduceLT, Int.reduceToNat, Int.reduceNeg, Nat.reduceLT, Nat.reduceEqDiff, Nat.reduceAdd, Nat.reduceSub, Nat.reduceMul, Nat.reduceLeDiff]
  ((repeat refine W_seq ?_); refine W_region0 T_ok ?_)
  simp (maxSteps := 1000000) only [VL, vappend, ↓Gd_none, ↓Gd_t, ↓Gd_f, ev, ofValue, zipEnv, thenQ, blockQ, vfill, inOrder, toPss, toPs, toP, obound, keyOf, cellInts, elemsOf, nilV, extV, pickV, refs, refsL, isCell, cellsOf, strip1, gdV, pdOk, pdPush, pdTick, Back, cond_true, cond_false, if_true, if_false, forall_const, reduceIte, reduceCtorEq, Int.reduceLE, Int.reduceLT, Int.reduceToNat, Int.reduceNeg, Nat.reduceLT, Nat.reduceEqDiff, Nat.reduceAdd, Nat.reduceSub, Nat.reduceMul, Nat.reduceLeDiff]
  ((repeat refine W_seq ?_); refine W_block ?_; (repeat refine W_seq ?_)); refine W_loopS (fun i : Nat => [(0, hallV h), (1, VV.ptr M.H.length 0), (6, vi i)]) (fun _ => ⟨M.H ++ [VObj.obj (hallC h)], M.lg⟩) (fun i => h.kinds.length - i) (fun i => i ≤ h.kinds.length ∧ firstErr (kindErrAt h) i = 0) 0 ⟨Nat.zero_le _, rfl⟩ ⟨rfl, rfl, rfl, trivial⟩ rfl ?_
  rintro i ⟨hi, hno⟩
  have k1 : -9223372036854775808 ≤ (i : Int) + 1 ∧ (i : Int) + 1 < 9223372036854775808 := by omega
  ((repeat refine W_seq ?_); refine W_region0 T_ok ?_)
  rcases Nat.lt_or_ge i h.kinds.length with hlt | hge
  · have k2 : ((i : Int) < (h.kinds.length : Int)) = True := eq_true (by omega)
    have hx : h.kinds[i]? = some h.kinds[i] := List.getElem?_eq_getElem hlt
    have hx' := map_at (f := kiP) hx
    have hmem := List.getElem_mem hlt
    generalize hc : h.kinds[i] = k at hx hx' hmem
    have hke : kindErrAt h i = kindErr h k := by simp [kindErrAt, hx]
    simp (maxSteps := 1000000) only [VL, vappend, ↓Gd_none, ↓Gd_t, ↓Gd_f, ev, ofValue, zipEnv, thenQ, blockQ, vfill, inOrder, toPss, toPs, toP, obound, keyOf, cellInts, elemsOf, nilV, extV, pickV, refs, refsL, isCell, cellsOf, strip1, gdV, pdOk, pdPush, pdTick, Back, cond_true, cond_false, if_true, if_false, forall_const, reduceIte, reduceCtorEq, Int.reduceLE, Int.reduceLT, Int.reduceToNat, Int.reduceNeg, Nat.reduceLT, Nat.reduceEqDiff, Nat.reduceAdd, Nat.reduceSub, Nat.reduceMul, Nat.reduceLeDiff, k2]
    ((repeat refine W_seq ?_); refine W_cond (b := true) (by first | rfl | simp only [ev, get_cons, Nat.reduceEqDiff, if_true, if_false, reduceIte]) (fun _ => ?_) (fun h => by cases h))
    ((repeat refine W_seq ?_); refine W_skip ?_)
    simp (maxSteps := 1000000) only [VL, vappend, ↓Gd_none, ↓Gd_t, ↓Gd_f, ev, ofValue, zipEnv, thenQ, blockQ, vfill, inOrder, toPss, toPs, toP, obound, keyOf, cellInts, elemsOf, nilV, extV, pickV, refs, refsL, isCell, cellsOf, strip1, gdV, pdOk, pdPush, pdTick, Back, cond_true, cond_false, if_true, if_false, forall_const, reduceIte, reduceCtorEq, Int.reduceLE, Int.reduceLT, Int.reduceToNat, Int.reduceNeg, Nat.reduceLT, Nat.reduceEqDiff, Nat.reduceAdd, Nat.reduceSub, Nat.reduceMul, Nat.reduceLeDiff]
    ((repeat refine W_seq ?_); refine W_block ?_)
    (repeat refine W_seq ?_)
    refine W_drawP T_ok [] (by kernel_rfl) (by kernel_rfl) ?_
    generalize hi : mkPlan _ = infs
    cbv at hi
    subst hi
    simp (maxSteps := 1000000) only [VL, vappend, ↓Gd_none, ↓Gd_t, ↓Gd_f, ev, ofValue, zipEnv, thenQ, blockQ, vfill, inOrder, toPss, toPs, toP, obound, keyOf, cellInts, elemsOf, nilV, extV, pickV, refs, refsL, isCell, cellsOf, strip1, gdV, pdOk, pdPush, pdTick, Back, cond_true, cond_false, if_true, if_false, forall_const, reduceIte, reduceCtorEq, Int.reduceLE, Int.reduceLT, Int.reduceToNat, Int.reduceNeg, Nat.reduceLT, Nat.reduceEqDiff, Nat.reduceAdd, Nat.reduceSub, Nat.reduceMul, Nat.reduceLeDiff, hx']
    apply call_d (f := 56) (fn := Try.f56) (by kernel_rfl) (by rfl)
    · exact checkKind_v h k _ (f5 k hmem) f4
    simp (maxSteps := 1000000) only [VL, vappend, ↓Gd_none, ↓Gd_t, ↓Gd_f, ev, ofValue, zipEnv, thenQ, blockQ, vfill, inOrder, toPss, toPs, toP, obound, keyOf, cellInts, elemsOf, nilV, extV, pickV, refs, refsL, isCell, cellsOf, strip1, gdV, pdOk, pdPush, pdTick, Back, cond_true, cond_false, if_true, if_false, forall_const, reduceIte, reduceCtorEq, Int.reduceLE, Int.reduceLT, Int.reduceToNat, Int.reduceNeg, Nat.reduceLT, Nat.reduceEqDiff, Nat.reduceAdd, Nat.reduceSub, Nat.reduceMul, Nat.reduceLeDiff]
    ((repeat refine W_seq ?_); refine W_region0 T_ok ?_)
    by_cases b2 : kindErr h k = 0
    rotate_left
    · simp (maxSteps := 1000000) only [VL, vappend, ↓Gd_none, ↓Gd_t, ↓Gd_f, ev, ofValue, zipEnv, thenQ, blockQ, vfill, inOrder, toPss, toPs, toP, obound, keyOf, cellInts, elemsOf, nilV, extV, pickV, refs, refsL, isCell, cellsOf, strip1, gdV, pdOk, pdPush, pdTick, Back, cond_true, cond_false, if_true, if_false, forall_const, reduceIte, reduceCtorEq, Int.reduceLE, Int.reduceLT, Int.reduceToNat, Int.reduceNeg, Nat.reduceLT, Nat.reduceEqDiff, Nat.reduceAdd, Nat.reduceSub, Nat.reduceMul, Nat.reduceLeDiff, b2]
      ((repeat refine W_seq ?_); refine W_cond (b := true) (by first | rfl | simp only [ev, get_cons, Nat.reduceEqDiff, if_true, if_false, reduceIte]) (fun _ => ?_) (fun h => by cases h))
      ((repeat refine W_seq ?_); refine W_region0 T_ok ?_)
      simp (maxSteps := 1000000) only [VL, vappend, ↓Gd_none, ↓Gd_t, ↓Gd_f, ev, ofValue, zipEnv, thenQ, blockQ, vfill, inOrder, toPss, toPs, toP, obound, keyOf, cellInts, elemsOf, nilV, extV, pickV, refs, refsL, isCell, cellsOf, strip1, gdV, pdOk, pdPush, pdTick, Back, cond_true, cond_false, if_true, if_false, forall_const, reduceIte, reduceCtorEq, Int.reduceLE, Int.reduceLT, Int.reduceToNat, Int.reduceNeg, Nat.reduceLT, Nat.reduceEqDiff, Nat.reduceAdd, Nat.reduceSub, Nat.reduceMul, Nat.reduceLeDiff]
      (repeat refine W_seq ?_)
      refine W_ret ?_
      try simp only [thenQ, blockQ]
      refine own_ret1 rfl ?_ (by rfl)
      simp only [get_cons, frz, vtup, Nat.reduceEqDiff, if_true, if_false, reduceIte]
      have := firstErr_hit hno (by rw [hke]; exact b2) hlt
      rw [e2, this, hke]
    simp (maxSteps := 1000000) only [VL, vappend, ↓Gd_none, ↓Gd_t, ↓Gd_f, ev, ofValue, zipEnv, thenQ, blockQ, vfill, inOrder, toPss, toPs, toP, obound, keyOf, cellInts, elemsOf, nilV, extV, pickV, refs, refsL, isCell, cellsOf, strip1, gdV, pdOk, pdPush, pdTick, Back, cond_true, cond_false, if_true, if_false, forall_const, reduceIte, reduceCtorEq, Int.reduceLE, Int.reduceLT, Int.reduceToNat, Int.reduceNeg, Nat.reduceLT, Nat.reduceEqDiff, Nat.reduceAdd, Nat.reduceSub, Nat.reduceMul, Nat.reduceLeDiff, b2]
    ((repeat refine W_seq ?_); refine W_cond (b := false) (by first | rfl | simp only [ev, get_cons, Nat.reduceEqDiff, if_true, if_false, reduceIte]) (fun h => by cases h) (fun _ => ?_))
    ((repeat refine W_seq ?_); refine W_skip ?_)
    simp (maxSteps := 1000000) only [VL, vappend, ↓Gd_none, ↓Gd_t, ↓Gd_f, ev, ofValue, zipEnv, thenQ, blockQ, vfill, inOrder, toPss, toPs, toP, obound, keyOf, cellInts, elemsOf, nilV, extV, pickV, refs, refsL, isCell, cellsOf, strip1, gdV, pdOk, pdPush, pdTick, Back, cond_true, cond_false, if_true, if_false, forall_const, reduceIte, reduceCtorEq, Int.reduceLE, Int.reduceLT, Int.reduceToNat, Int.reduceNeg, Nat.reduceLT, Nat.reduceEqDiff, Nat.reduceAdd, Nat.reduceSub, Nat.reduceMul, Nat.reduceLeDiff]
    ((repeat refine W_seq ?_); refine W_region0 T_ok ?_)
    simp (maxSteps := 1000000) only [VL, vappend, ↓Gd_none, ↓Gd_t, ↓Gd_f, ev, ofValue, zipEnv, thenQ, blockQ, vfill, inOrder, toPss, toPs, toP, obound, keyOf, cellInts, elemsOf, nilV, extV, pickV, refs, refsL, isCell, cellsOf, strip1, gdV, pdOk, pdPush, pdTick, Back, cond_true, cond_false, if_true, if_false, forall_const, reduceIte, reduceCtorEq, Int.reduceLE, Int.reduceLT, Int.reduceToNat, Int.reduceNeg, Nat.reduceLT, Nat.reduceEqDiff, Nat.reduceAdd, Nat.reduceSub, Nat.reduceMul, Nat.reduceLeDiff, k1]
    refine LoopK.mk (i + 1) (by omega) ⟨by omega, firstErr_step hno (by rw [hke]; exact b2)⟩ ⟨rfl, rfl, rfl, trivial⟩ rfl
  · have k2 : ((i : Int) < (h.kinds.length : Int)) = False := eq_false (by omega)
    simp (maxSteps := 1000000) only [VL, vappend, ↓Gd_none, ↓Gd_t, ↓Gd_f, ev, ofValue, zipEnv, thenQ, blockQ, vfill, inOrder, toPss, toPs, toP, obound, keyOf, cellInts, elemsOf, nilV, extV, pickV, refs, refsL, isCell, cellsOf, strip1, gdV, pdOk, pdPush, pdTick, Back, cond_true, cond_false, if_true, if_false, forall_const, reduceIte, reduceCtorEq, Int.reduceLE, Int.reduceLT, Int.reduceToNat, Int.reduceNeg, Nat.reduceLT, Nat.reduceEqDiff, Nat.reduceAdd, Nat.reduceSub, Nat.reduceMul, Nat.reduceLeDiff, k2]
    ((repeat refine W_seq ?_); refine W_cond (b := false) (by first | rfl | simp only [ev, get_cons, Nat.reduceEqDiff, if_true, if_false, reduceIte]) (fun h => by cases h) (fun _ => ?_))
    ((repeat refine W_seq ?_); refine W_exit ?_)
    simp (maxSteps := 1000000) only [VL, vappend, ↓Gd_none, ↓Gd_t, ↓Gd_f, ev, ofValue, zipEnv, thenQ, blockQ, vfill, inOrder, toPss, toPs, toP, obound, keyOf, cellInts, elemsOf, nilV, extV, pickV, refs, refsL, isCell, cellsOf, strip1, gdV, pdOk, pdPush, pdTick, Back, cond_true, cond_false, if_true, if_false, forall_const, reduceIte, reduceCtorEq, Int.reduceLE, Int.reduceLT, Int.reduceToNat, Int.reduceNeg, Nat.reduceLT, Nat.reduceEqDiff, Nat.reduceAdd, Nat.reduceSub, Nat.reduceMul, Nat.reduceLeDiff]
    ((repeat refine W_seq ?_); refine W_region0 T_ok ?_)
    simp (maxSteps := 1000000) only [VL, vappend, ↓Gd_none, ↓Gd_t, ↓Gd_f, ev, ofValue, zipEnv, thenQ, blockQ, vfill, inOrder, toPss, toPs, toP, obound, keyOf, cellInts, elemsOf, nilV, extV, pickV, refs, refsL, isCell, cellsOf, strip1, gdV, pdOk, pdPush, pdTick, Back, cond_true, cond_false, if_true, if_false, forall_const, reduceIte, reduceCtorEq, Int.reduceLE, Int.reduceLT, Int.reduceToNat, Int.reduceNeg, Nat.reduceLT, Nat.reduceEqDiff, Nat.reduceAdd, Nat.reduceSub, Nat.reduceMul, Nat.reduceLeDiff]
    (repeat refine W_seq ?_)
    refine W_ret ?_
    try simp only [thenQ, blockQ]
    refine own_ret1 rfl ?_ (by rfl)
    simp only [get_cons, frz, vtup, Nat.reduceEqDiff, if_true, if_false, reduceIte]
    have : i = h.kinds.length := by omega
    subst this
    rw [e2, hno]
end Go.Proofs.Ytijcmgfblpokhaa.Vm
