/- VaultEnds answers true for every list of numbers. Part 41 of its proof; no conditions. -/
import Derived.Test.YtijcmgfblpokhaaVe40
set_option linter.unusedVariables false
set_option linter.unusedSimpArgs false
/- The program's Loads, Bears and Earns, on values. (Vm) -/
namespace Go.Proofs.Ytijcmgfblpokhaa.Vm
open Go Go.Proofs
theorem own_ret2 {T : Tab} {f : Nat} {fn : Func} {M : Mem} {L : List VObj} {e : Env} {s t : Nat} {X Y : VV} (h1 : fn.results.toList = [.tmp s, .tmp t]) (hx : frz M.H.length (M.H ++ L) (get e s) = X) (hy : frz M.H.length (M.H ++ L) (get e t) = Y) (h2 : refs X = []) (h3 : refs Y = []) : ownQ T f fn M (fun r M' => M' = M ∧ r = .tup [X, Y]) .ret e ⟨M.H ++ L, M.lg⟩ [] :=
  own_ret (vs := [get e s, get e t]) (r := .tup [X, Y]) (by rw [h1]; rfl) (by rw [← hx, ← hy]; rfl) (by simp [refs, refsL, h2, h3]) ⟨rfl, rfl⟩
theorem ite_v {c : Prop} [Decidable c] {a b : VV} (h : c) : (if c then a else b) = a := if_pos h
set_option maxRecDepth 100000 in
theorem bears_vm (h : Ha) (l : List Pu) (M : Mem) (V : VH h) (hg : ∀ o ∈ l, GoodP h o) (hl : l.length ≤ 500) : VC Try.prog 69 [hallV h, pusV l] M (fun r M' => M' = M ∧ r = vi (verdictOf h l)) := by
  have hbl := V.bears
  have hll : (loadsOf h l).length = h.bears.length := by rw [loadsOf_len]; omega
  have hbp := bays_pos V
  refine VC_own' T_ok (f := 69) (fn := Try.f69) (by kernel_rfl) rfl Try.ntmps69 (by rfl) (by rfl) ?_
  ((repeat refine W_seq ?_); refine W_region0 T_ok ?_)
  simp (maxSteps := 1000000) only [VL, vappend, ↓Gd_none, ↓Gd_t, ↓Gd_f, ev, ofValue, zipEnv, thenQ, blockQ, vfill, inOrder, toPss, toPs, toP, obound, keyOf, cellInts, elemsOf, nilV, extV, pickV, refs, refsL, isCell, cellsOf, strip1, gdV, pdOk, pdPush, pdTick, Back, cond_true, cond_false, if_true, if_false, forall_const, reduceIte, reduceCtorEq, Int.reduceLE, Int.reduceLT, Int.reduceToNat, Int.reduceNeg, Nat.reduceLT, Nat.reduceEqDiff, Nat.reduceAdd, Nat.reduceSub, Nat.reduceMul, Nat.reduceLeDiff]
  ((repeat refine W_seq ?_); refine W_region0 T_ok ?_)
  simp (maxSteps := 1000000) only [VL, vappend, ↓Gd_none, ↓Gd_t, ↓Gd_f, ev, ofValue, zipEnv, thenQ, blockQ, vfill, inOrder, toPss, toPs, toP, obound, keyOf, cellInts, elemsOf, nilV, extV, pickV, refs, refsL, isCell, cellsOf, strip1, gdV, pdOk, pdPush, pdTick, Back, cond_true, cond_false, if_true, if_false, forall_const, reduceIte, reduceCtorEq, Int.reduceLE, Int.reduceLT, Int.reduceToNat, Int.reduceNeg, Nat.reduceLT, Nat.reduceEqDiff, Nat.reduceAdd, Nat.reduceSub, Nat.reduceMul, Nat.reduceLeDiff]
  ((repeat refine W_seq ?_); refine W_region0 T_ok ?_)
  simp (maxSteps := 1000000) only [VL, vappend, ↓Gd_none, ↓Gd_t, ↓Gd_f, ev, ofValue, zipEnv, thenQ, blockQ, vfill, inOrder, toPss, toPs, toP, obound, keyOf, cellInts, elemsOf, nilV, extV, pickV, refs, refsL, isCell, cellsOf, strip1, gdV, pdOk, pdPush, pdTick, Back, cond_true, cond_false, if_true, if_false, forall_const, reduceIte, reduceCtorEq, Int.reduceLE, Int.reduceLT, Int.reduceToNat, Int.reduceNeg, Nat.reduceLT, Nat.reduceEqDiff, Nat.reduceAdd, Nat.reduceSub, Nat.reduceMul, Nat.reduceLeDiff]
  apply call_eq (f := 72) (fn := Try.f72) (by kernel_rfl) (by rfl)
  · exact loads_vm h l _ V hg hl
  simp (maxSteps := 1000000) only [VL, vappend, ↓Gd_none, ↓Gd_t, ↓Gd_f, ev, ofValue, zipEnv, thenQ, blockQ, vfill, inOrder, toPss, toPs, toP, obound, keyOf, cellInts, elemsOf, nilV, extV, pickV, refs, refsL, isCell, cellsOf, strip1, gdV, pdOk, pdPush, pdTick, Back, cond_true, cond_false, if_true, if_false, forall_const, reduceIte, reduceCtorEq, Int.reduceLE, Int.reduceLT, Int.reduceToNat, Int.reduceNeg, Nat.reduceLT, Nat.reduceEqDiff, Nat.reduceAdd, Nat.reduceSub, Nat.reduceMul, Nat.reduceLeDiff, hll]
  ((repeat refine W_seq ?_); refine W_block ?_; (repeat refine W_seq ?_)); refine W_loopS (fun s : ChkSt => [(0, hallV h), (1, pusV l), (2, .ptr M.H.length 0), (5, vi (if fitsHi h l s.i then 1 else 3)), (10, spsV (loadsOf h l)), (11, vi h.bears.length), (12, vi s.i)]) (fun s => ⟨M.H ++ (VObj.obj (hallC h) :: s.junk), M.lg⟩) (fun s => h.bears.length - s.i) (fun s => s.i ≤ h.bears.length ∧ fitsLo h l s.i = true) ⟨0, []⟩ ⟨Nat.zero_le _, rfl⟩ ⟨rfl, rfl, rfl, rfl, rfl, rfl, rfl, trivial⟩ rfl ?_
  rintro ⟨i, junk⟩ ⟨hi, hlo⟩
  simp only at hi hlo
  have k1 : -9223372036854775808 ≤ (i : Int) + 1 ∧ (i : Int) + 1 < 9223372036854775808 := by omega
  ((repeat refine W_seq ?_); refine W_region0 T_ok ?_)
  rcases Nat.lt_or_ge i h.bears.length with hlt | hge
  · have k2 : ((i : Int) < (h.bears.length : Int)) = True := eq_true (by omega)
    have hx : h.bears[i]? = some h.bears[i] := List.getElem?_eq_getElem hlt
    have hx' := map_at (f := intP) hx
    have hy := loadsOf_at (h := h) (l := l) (k := i) (by omega)
    have hy' := map_at (f := spP) hy
    have hgd : h.bears.getD i 0 = h.bears[i] := by simp [hlt]
    generalize hc : h.bears[i] = b at hx hx' hgd
    have f1 := fitsHi_step h l i
    have f2 := fitsLo_step h l i
    rw [hgd] at f1 f2
    simp (maxSteps := 1000000) only [VL, vappend, ↓Gd_none, ↓Gd_t, ↓Gd_f, ev, ofValue, zipEnv, thenQ, blockQ, vfill, inOrder, toPss, toPs, toP, obound, keyOf, cellInts, elemsOf, nilV, extV, pickV, refs, refsL, isCell, cellsOf, strip1, gdV, pdOk, pdPush, pdTick, Back, cond_true, cond_false, if_true, if_false, forall_const, reduceIte, reduceCtorEq, Int.reduceLE, Int.reduceLT, Int.reduceToNat, Int.reduceNeg, Nat.reduceLT, Nat.reduceEqDiff, Nat.reduceAdd, Nat.reduceSub, Nat.reduceMul, Nat.reduceLeDiff, k2]
    ((repeat refine W_seq ?_); refine W_cond (b := true) (by first | rfl | simp only [ev, get_cons, Nat.reduceEqDiff, if_true, if_false, reduceIte]) (fun _ => ?_) (fun h => by cases h))
    ((repeat refine W_seq ?_); refine W_skip ?_)
    simp (maxSteps := 1000000) only [VL, vappend, ↓Gd_none, ↓Gd_t, ↓Gd_f, ev, ofValue, zipEnv, thenQ, blockQ, vfill, inOrder, toPss, toPs, toP, obound, keyOf, cellInts, elemsOf, nilV, extV, pickV, refs, refsL, isCell, cellsOf, strip1, gdV, pdOk, pdPush, pdTick, Back, cond_true, cond_false, if_true, if_false, forall_const, reduceIte, reduceCtorEq, Int.reduceLE, Int.reduceLT, Int.reduceToNat, Int.reduceNeg, Nat.reduceLT, Nat.reduceEqDiff, Nat.reduceAdd, Nat.reduceSub, Nat.reduceMul, Nat.reduceLeDiff]
    ((repeat refine W_seq ?_); refine W_block ?_)
    ((repeat refine W_seq ?_); refine W_region0 T_ok ?_)
    simp (maxSteps := 1000000) only [VL, vappend, ↓Gd_none, ↓Gd_t, ↓Gd_f, ev, ofValue, zipEnv, thenQ, blockQ, vfill, inOrder, toPss, toPs, toP, obound, keyOf, cellInts, elemsOf, nilV, extV, pickV, refs, refsL, isCell, cellsOf, strip1, gdV, pdOk, pdPush, pdTick, Back, cond_true, cond_false, if_true, if_false, forall_const, reduceIte, reduceCtorEq, Int.reduceLE, Int.reduceLT, Int.reduceToNat, Int.reduceNeg, Nat.reduceLT, Nat.reduceEqDiff, Nat.reduceAdd, Nat.reduceSub, Nat.reduceMul, Nat.reduceLeDiff, hy']
    ((repeat refine W_seq ?_); refine W_block ?_)
    (repeat refine W_seq ?_)
    refine W_drawP T_ok [] (by kernel_rfl) (by kernel_rfl) ?_
    generalize hi : mkPlan _ = infs
    cbv at hi
    subst hi
    by_cases a1 : b < (loadAt h l i).lo
    · simp (maxSteps := 1000000) only [VL, vappend, ↓Gd_none, ↓Gd_t, ↓Gd_f, ev, ofValue, zipEnv, thenQ, blockQ, vfill, inOrder, toPss, toPs, toP, obound, keyOf, cellInts, elemsOf, nilV, extV, pickV, refs, refsL, isCell, cellsOf, strip1, gdV, pdOk, pdPush, pdTick, Back, cond_true, cond_false, if_true, if_false, forall_const, reduceIte, reduceCtorEq, Int.reduceLE, Int.reduceLT, Int.reduceToNat, Int.reduceNeg, Nat.reduceLT, Nat.reduceEqDiff, Nat.reduceAdd, Nat.reduceSub, Nat.reduceMul, Nat.reduceLeDiff, hx', a1]
      ((repeat refine W_seq ?_); refine W_cond (b := true) (by first | rfl | simp only [ev, get_cons, Nat.reduceEqDiff, if_true, if_false, reduceIte]) (fun _ => ?_) (fun h => by cases h))
      ((repeat refine W_seq ?_); refine W_region0 T_ok ?_)
      simp (maxSteps := 1000000) only [VL, vappend, ↓Gd_none, ↓Gd_t, ↓Gd_f, ev, ofValue, zipEnv, thenQ, blockQ, vfill, inOrder, toPss, toPs, toP, obound, keyOf, cellInts, elemsOf, nilV, extV, pickV, refs, refsL, isCell, cellsOf, strip1, gdV, pdOk, pdPush, pdTick, Back, cond_true, cond_false, if_true, if_false, forall_const, reduceIte, reduceCtorEq, Int.reduceLE, Int.reduceLT, Int.reduceToNat, Int.reduceNeg, Nat.reduceLT, Nat.reduceEqDiff, Nat.reduceAdd, Nat.reduceSub, Nat.reduceMul, Nat.reduceLeDiff]
      (repeat refine W_seq ?_)
      refine W_ret ?_
      try simp only [thenQ, blockQ]
      refine own_ret1 rfl ?_ (by rfl)
      simp only [get_cons, frz, vtup, Nat.reduceEqDiff, if_true, if_false, reduceIte]
      have q1 : fitsLo h l h.bears.length = false := by
        cases hq : fitsLo h l h.bears.length
        · rfl
        · unfold fitsLo at hq
          rw [List.all_eq_true] at hq
          have := hq i (List.mem_range.2 hlt)
          rw [hgd] at this
          simp at this
          omega
      have q2 : fitsHi h l h.bears.length = false := by
        cases hq : fitsHi h l h.bears.length
        · rfl
        · unfold fitsHi at hq
          rw [List.all_eq_true] at hq
          have := hq i (List.mem_range.2 hlt)
          rw [hgd] at this
          have h3 := loadAt_lohi V hg i
          simp at this
          omega
      rw [verdictOf, q1, q2]; rfl
    · simp (maxSteps := 1000000) only [VL, vappend, ↓Gd_none, ↓Gd_t, ↓Gd_f, ev, ofValue, zipEnv, thenQ, blockQ, vfill, inOrder, toPss, toPs, toP, obound, keyOf, cellInts, elemsOf, nilV, extV, pickV, refs, refsL, isCell, cellsOf, strip1, gdV, pdOk, pdPush, pdTick, Back, cond_true, cond_false, if_true, if_false, forall_const, reduceIte, reduceCtorEq, Int.reduceLE, Int.reduceLT, Int.reduceToNat, Int.reduceNeg, Nat.reduceLT, Nat.reduceEqDiff, Nat.reduceAdd, Nat.reduceSub, Nat.reduceMul, Nat.reduceLeDiff, hx', a1]
      ((repeat refine W_seq ?_); refine W_cond (b := false) (by first | rfl | simp only [ev, get_cons, Nat.reduceEqDiff, if_true, if_false, reduceIte]) (fun h => by cases h) (fun _ => ?_))
      (repeat refine W_seq ?_)
      refine W_drawP T_ok [] (by kernel_rfl) (by kernel_rfl) ?_
      generalize hi : mkPlan _ = infs
      cbv at hi
      subst hi
      by_cases a2 : b < (loadAt h l i).hi
      · simp (maxSteps := 1000000) only [VL, vappend, ↓Gd_none, ↓Gd_t, ↓Gd_f, ev, ofValue, zipEnv, thenQ, blockQ, vfill, inOrder, toPss, toPs, toP, obound, keyOf, cellInts, elemsOf, nilV, extV, pickV, refs, refsL, isCell, cellsOf, strip1, gdV, pdOk, pdPush, pdTick, Back, cond_true, cond_false, if_true, if_false, forall_const, reduceIte, reduceCtorEq, Int.reduceLE, Int.reduceLT, Int.reduceToNat, Int.reduceNeg, Nat.reduceLT, Nat.reduceEqDiff, Nat.reduceAdd, Nat.reduceSub, Nat.reduceMul, Nat.reduceLeDiff, hx', a2]
        ((repeat refine W_seq ?_); refine W_cond (b := true) (by first | rfl | simp only [ev, get_cons, Nat.reduceEqDiff, if_true, if_false, reduceIte]) (fun _ => ?_) (fun h => by cases h))
        ((repeat refine W_seq ?_); refine W_region0 T_ok ?_)
        simp (maxSteps := 1000000) only [VL, vappend, ↓Gd_none, ↓Gd_t, ↓Gd_f, ev, ofValue, zipEnv, thenQ, blockQ, vfill, inOrder, toPss, toPs, toP, obound, keyOf, cellInts, elemsOf, nilV, extV, pickV, refs, refsL, isCell, cellsOf, strip1, gdV, pdOk, pdPush, pdTick, Back, cond_true, cond_false, if_true, if_false, forall_const, reduceIte, reduceCtorEq, Int.reduceLE, Int.reduceLT, Int.reduceToNat, Int.reduceNeg, Nat.reduceLT, Nat.reduceEqDiff, Nat.reduceAdd, Nat.reduceSub, Nat.reduceMul, Nat.reduceLeDiff]
        ((repeat refine W_seq ?_); refine W_region0 T_ok ?_)
        simp (maxSteps := 1000000) only [VL, vappend, ↓Gd_none, ↓Gd_t, ↓Gd_f, ev, ofValue, zipEnv, thenQ, blockQ, vfill, inOrder, toPss, toPs, toP, obound, keyOf, cellInts, elemsOf, nilV, extV, pickV, refs, refsL, isCell, cellsOf, strip1, gdV, pdOk, pdPush, pdTick, Back, cond_true, cond_false, if_true, if_false, forall_const, reduceIte, reduceCtorEq, Int.reduceLE, Int.reduceLT, Int.reduceToNat, Int.reduceNeg, Nat.reduceLT, Nat.reduceEqDiff, Nat.reduceAdd, Nat.reduceSub, Nat.reduceMul, Nat.reduceLeDiff, k1]
        refine LoopK.mk ⟨i + 1, junk ++ [VObj.obj [vi (loadAt h l i).lo, vi (loadAt h l i).hi]]⟩ (by simp only; omega) ⟨by simp only; omega, by simp only; rw [f2, hlo]; simp; omega⟩ ⟨rfl, rfl, rfl, ?_, rfl, rfl, rfl, trivial⟩ rfl
        rw [f1, decide_eq_false (by omega), Bool.and_false]; rfl
      · simp (maxSteps := 1000000) only [VL, vappend, ↓Gd_none, ↓Gd_t, ↓Gd_f, ev, ofValue, zipEnv, thenQ, blockQ, vfill, inOrder, toPss, toPs, toP, obound, keyOf, cellInts, elemsOf, nilV, extV, pickV, refs, refsL, isCell, cellsOf, strip1, gdV, pdOk, pdPush, pdTick, Back, cond_true, cond_false, if_true, if_false, forall_const, reduceIte, reduceCtorEq, Int.reduceLE, Int.reduceLT, Int.reduceToNat, Int.reduceNeg, Nat.reduceLT, Nat.reduceEqDiff, Nat.reduceAdd, Nat.reduceSub, Nat.reduceMul, Nat.reduceLeDiff, hx', a2]
        ((repeat refine W_seq ?_); refine W_cond (b := false) (by first | rfl | simp only [ev, get_cons, Nat.reduceEqDiff, if_true, if_false, reduceIte]) (fun h => by cases h) (fun _ => ?_))
        ((repeat refine W_seq ?_); refine W_skip ?_)
        simp (maxSteps := 1000000) only [VL, vappend, ↓Gd_none, ↓Gd_t, ↓Gd_f, ev, ofValue, zipEnv, thenQ, blockQ, vfill, inOrder, toPss, toPs, toP, obound, keyOf, cellInts, elemsOf, nilV, extV, pickV, refs, refsL, isCell, cellsOf, strip1, gdV, pdOk, pdPush, pdTick, Back, cond_true, cond_false, if_true, if_false, forall_const, reduceIte, reduceCtorEq, Int.reduceLE, Int.reduceLT, Int.reduceToNat, Int.reduceNeg, Nat.reduceLT, Nat.reduceEqDiff, Nat.reduceAdd, Nat.reduceSub, Nat.reduceMul, Nat.reduceLeDiff]
        ((repeat refine W_seq ?_); refine W_region0 T_ok ?_)
        simp (maxSteps := 1000000) only [VL, vappend, ↓Gd_none, ↓Gd_t, ↓Gd_f, ev, ofValue, zipEnv, thenQ, blockQ, vfill, inOrder, toPss, toPs, toP, obound, keyOf, cellInts, elemsOf, nilV, extV, pickV, refs, refsL, isCell, cellsOf, strip1, gdV, pdOk, pdPush, pdTick, Back, cond_true, cond_false, if_true, if_false, forall_const, reduceIte, reduceCtorEq, Int.reduceLE, Int.reduceLT, Int.reduceToNat, Int.reduceNeg, Nat.reduceLT, Nat.reduceEqDiff, Nat.reduceAdd, Nat.reduceSub, Nat.reduceMul, Nat.reduceLeDiff, k1]
        refine LoopK.mk ⟨i + 1, junk ++ [VObj.obj [vi (loadAt h l i).lo, vi (loadAt h l i).hi]]⟩ (by simp only; omega) ⟨by simp only; omega, by simp only; rw [f2, hlo]; simp; omega⟩ ⟨rfl, rfl, rfl, ?_, rfl, rfl, rfl, trivial⟩ rfl
        rw [f1, decide_eq_true (by omega), Bool.and_true]; rfl
  · have k2 : ((i : Int) < (h.bears.length : Int)) = False := eq_false (by omega)
    obtain rfl : i = h.bears.length := by omega
    simp (maxSteps := 1000000) only [VL, vappend, ↓Gd_none, ↓Gd_t, ↓Gd_f, ev, ofValue, zipEnv, thenQ, blockQ, vfill, inOrder, toPss, toPs, toP, obound, keyOf, cellInts, elemsOf, nilV, extV, pickV, refs, refsL, isCell, cellsOf, strip1, gdV, pdOk, pdPush, pdTick, Back, cond_true, cond_false, if_true, if_false, forall_const, reduceIte, reduceCtorEq, Int.reduceLE, Int.reduceLT, Int.reduceToNat, Int.reduceNeg, Nat.reduceLT, Nat.reduceEqDiff, Nat.reduceAdd, Nat.reduceSub, Nat.reduceMul, Nat.reduceLeDiff, k2]
    ((repeat refine W_seq ?_); refine W_cond (b := false) (by first | rfl | simp only [ev, get_cons, Nat.reduceEqDiff, if_true, if_false, reduceIte]) (fun h => by cases h) (fun _ => ?_))
    ((repeat refine W_seq ?_); refine W_exit ?_)
    simp (maxSteps := 1000000) only [VL, vappend, ↓Gd_none, ↓Gd_t, ↓Gd_f, ev, ofValue, zipEnv, thenQ, blockQ, vfill, inOrder, toPss, toPs, toP, obound, keyOf, cellInts, elemsOf, nilV, extV, pickV, refs, refsL, isCell, cellsOf, strip1, gdV, pdOk, pdPush, pdTick, Back, cond_true, cond_false, if_true, if_false, forall_const, reduceIte, reduceCtorEq, Int.reduceLE, Int.reduceLT, Int.reduceToNat, Int.reduceNeg, Nat.reduceLT, Nat.reduceEqDiff, Nat.reduceAdd, Nat.reduceSub, Nat.reduceMul, Nat.reduceLeDiff]
    ((repeat refine W_seq ?_); refine W_region0 T_ok ?_)
    simp (maxSteps := 1000000) only [VL, vappend, ↓Gd_none, ↓Gd_t, ↓Gd_f, ev, ofValue, zipEnv, thenQ, blockQ, vfill, inOrder, toPss, toPs, toP, obound, keyOf, cellInts, elemsOf, nilV, extV, pickV, refs, refsL, isCell, cellsOf, strip1, gdV, pdOk, pdPush, pdTick, Back, cond_true, cond_false, if_true, if_false, forall_const, reduceIte, reduceCtorEq, Int.reduceLE, Int.reduceLT, Int.reduceToNat, Int.reduceNeg, Nat.reduceLT, Nat.reduceEqDiff, Nat.reduceAdd, Nat.reduceSub, Nat.reduceMul, Nat.reduceLeDiff]
    (repeat refine W_seq ?_)
    refine W_ret ?_
    try simp only [thenQ, blockQ]
    refine own_ret1 rfl ?_ (by rfl)
    simp only [get_cons, frz, vtup, Nat.reduceEqDiff, if_true, if_false, reduceIte]
    rw [verdictOf, hlo]; rfl
def loadsR (h : Ha) (l : List Pu) : VV := if layoutErr h l = 0 then spsV (loadsOf h l) else .p (.sl 0 [])
theorem Loads_vm (h : Ha) (l : List Pu) (M : Mem) (F : Fin h) (hl : l.length ≤ 1000000) : VC Try.prog 24 [hallV h, pusV l] M (fun r M' => M' = M ∧ r = .tup [loadsR h l, vi (layoutErr h l)]) := by
  refine VC_own' T_ok (f := 24) (fn := Try.f24) (by kernel_rfl) rfl Try.ntmps24 (by rfl) (by rfl) ?_
  ((repeat refine W_seq ?_); refine W_region0 T_ok ?_)
  simp (maxSteps := 1000000) only [VL, vappend, ↓Gd_none, ↓Gd_t, ↓Gd_f, ev, ofValue, zipEnv, thenQ, blockQ, vfill, inOrder, toPss, toPs, toP, obound, keyOf, cellInts, elemsOf, nilV, extV, pickV, refs, refsL, isCell, cellsOf, strip1, gdV, pdOk, pdPush, pdTick, Back, cond_true, cond_false, if_true, if_false, forall_const, reduceIte, reduceCtorEq, Int.reduceLE, Int.reduceLT, Int.reduceToNat, Int.reduceNeg, Nat.reduceLT, Nat.reduceEqDiff, Nat.reduceAdd, Nat.reduceSub, Nat.reduceMul, Nat.reduceLeDiff]
  ((repeat refine W_seq ?_); refine W_region0 T_ok ?_)
  simp (maxSteps := 1000000) only [VL, vappend, ↓Gd_none, ↓Gd_t, ↓Gd_f, ev, ofValue, zipEnv, thenQ, blockQ, vfill, inOrder, toPss, toPs, toP, obound, keyOf, cellInts, elemsOf, nilV, extV, pickV, refs, refsL, isCell, cellsOf, strip1, gdV, pdOk, pdPush, pdTick, Back, cond_true, cond_false, if_true, if_false, forall_const, reduceIte, reduceCtorEq, Int.reduceLE, Int.reduceLT, Int.reduceToNat, Int.reduceNeg, Nat.reduceLT, Nat.reduceEqDiff, Nat.reduceAdd, Nat.reduceSub, Nat.reduceMul, Nat.reduceLeDiff]
  apply call_eq (f := 37) (fn := Try.f37) (by kernel_rfl) (by rfl)
  · exact checkLayout_vm h l _ F hl
  simp (maxSteps := 1000000) only [VL, vappend, ↓Gd_none, ↓Gd_t, ↓Gd_f, ev, ofValue, zipEnv, thenQ, blockQ, vfill, inOrder, toPss, toPs, toP, obound, keyOf, cellInts, elemsOf, nilV, extV, pickV, refs, refsL, isCell, cellsOf, strip1, gdV, pdOk, pdPush, pdTick, Back, cond_true, cond_false, if_true, if_false, forall_const, reduceIte, reduceCtorEq, Int.reduceLE, Int.reduceLT, Int.reduceToNat, Int.reduceNeg, Nat.reduceLT, Nat.reduceEqDiff, Nat.reduceAdd, Nat.reduceSub, Nat.reduceMul, Nat.reduceLeDiff]
  ((repeat refine W_seq ?_); refine W_region0 T_ok ?_)
  by_cases e : layoutErr h l = 0
  · have hL := (layout_ok.1 e).2
    have := lay_len hL
    simp (maxSteps := 1000000) only [VL, vappend, ↓Gd_none, ↓Gd_t, ↓Gd_f, ev, ofValue, zipEnv, thenQ, blockQ, vfill, inOrder, toPss, toPs, toP, obound, keyOf, cellInts, elemsOf, nilV, extV, pickV, refs, refsL, isCell, cellsOf, strip1, gdV, pdOk, pdPush, pdTick, Back, cond_true, cond_false, if_true, if_false, forall_const, reduceIte, reduceCtorEq, Int.reduceLE, Int.reduceLT, Int.reduceToNat, Int.reduceNeg, Nat.reduceLT, Nat.reduceEqDiff, Nat.reduceAdd, Nat.reduceSub, Nat.reduceMul, Nat.reduceLeDiff, e]
    ((repeat refine W_seq ?_); refine W_cond (b := false) (by first | rfl | simp only [ev, get_cons, Nat.reduceEqDiff, if_true, if_false, reduceIte]) (fun h => by cases h) (fun _ => ?_))
    ((repeat refine W_seq ?_); refine W_skip ?_)
    simp (maxSteps := 1000000) only [VL, vappend, ↓Gd_none, ↓Gd_t, ↓Gd_f, ev, ofValue, zipEnv, thenQ, blockQ, vfill, inOrder, toPss, toPs, toP, obound, keyOf, cellInts, elemsOf, nilV, extV, pickV, refs, refsL, isCell, cellsOf, strip1, gdV, pdOk, pdPush, pdTick, Back, cond_true, cond_false, if_true, if_false, forall_const, reduceIte, reduceCtorEq, Int.reduceLE, Int.reduceLT, Int.reduceToNat, Int.reduceNeg, Nat.reduceLT, Nat.reduceEqDiff, Nat.reduceAdd, Nat.reduceSub, Nat.reduceMul, Nat.reduceLeDiff]
    ((repeat refine W_seq ?_); refine W_region0 T_ok ?_)
    simp (maxSteps := 1000000) only [VL, vappend, ↓Gd_none, ↓Gd_t, ↓Gd_f, ev, ofValue, zipEnv, thenQ, blockQ, vfill, inOrder, toPss, toPs, toP, obound, keyOf, cellInts, elemsOf, nilV, extV, pickV, refs, refsL, isCell, cellsOf, strip1, gdV, pdOk, pdPush, pdTick, Back, cond_true, cond_false, if_true, if_false, forall_const, reduceIte, reduceCtorEq, Int.reduceLE, Int.reduceLT, Int.reduceToNat, Int.reduceNeg, Nat.reduceLT, Nat.reduceEqDiff, Nat.reduceAdd, Nat.reduceSub, Nat.reduceMul, Nat.reduceLeDiff]
    apply call_eq (f := 72) (fn := Try.f72) (by kernel_rfl) (by rfl)
    · exact loads_vm h l _ (VH.of (layout_ok.1 e).1) (lay_good hL) (by omega)
    simp (maxSteps := 1000000) only [VL, vappend, ↓Gd_none, ↓Gd_t, ↓Gd_f, ev, ofValue, zipEnv, thenQ, blockQ, vfill, inOrder, toPss, toPs, toP, obound, keyOf, cellInts, elemsOf, nilV, extV, pickV, refs, refsL, isCell, cellsOf, strip1, gdV, pdOk, pdPush, pdTick, Back, cond_true, cond_false, if_true, if_false, forall_const, reduceIte, reduceCtorEq, Int.reduceLE, Int.reduceLT, Int.reduceToNat, Int.reduceNeg, Nat.reduceLT, Nat.reduceEqDiff, Nat.reduceAdd, Nat.reduceSub, Nat.reduceMul, Nat.reduceLeDiff]
    (repeat refine W_seq ?_)
    refine W_ret ?_
    try simp only [thenQ, blockQ]
    refine own_ret2 rfl ?_ rfl ?_ rfl
    · simp [get_cons, frz, loadsR, e]
    · simp [loadsR, e, refs]
  · simp (maxSteps := 1000000) only [VL, vappend, ↓Gd_none, ↓Gd_t, ↓Gd_f, ev, ofValue, zipEnv, thenQ, blockQ, vfill, inOrder, toPss, toPs, toP, obound, keyOf, cellInts, elemsOf, nilV, extV, pickV, refs, refsL, isCell, cellsOf, strip1, gdV, pdOk, pdPush, pdTick, Back, cond_true, cond_false, if_true, if_false, forall_const, reduceIte, reduceCtorEq, Int.reduceLE, Int.reduceLT, Int.reduceToNat, Int.reduceNeg, Nat.reduceLT, Nat.reduceEqDiff, Nat.reduceAdd, Nat.reduceSub, Nat.reduceMul, Nat.reduceLeDiff, e]
    ((repeat refine W_seq ?_); refine W_cond (b := true) (by first | rfl | simp only [ev, get_cons, Nat.reduceEqDiff, if_true, if_false, reduceIte]) (fun _ => ?_) (fun h => by cases h))
    ((repeat refine W_seq ?_); refine W_region0 T_ok ?_)
    simp (maxSteps := 1000000) only [VL, vappend, ↓Gd_none, ↓Gd_t, ↓Gd_f, ev, ofValue, zipEnv, thenQ, blockQ, vfill, inOrder, toPss, toPs, toP, obound, keyOf, cellInts, elemsOf, nilV, extV, pickV, refs, refsL, isCell, cellsOf, strip1, gdV, pdOk, pdPush, pdTick, Back, cond_true, cond_false, if_true, if_false, forall_const, reduceIte, reduceCtorEq, Int.reduceLE, Int.reduceLT, Int.reduceToNat, Int.reduceNeg, Nat.reduceLT, Nat.reduceEqDiff, Nat.reduceAdd, Nat.reduceSub, Nat.reduceMul, Nat.reduceLeDiff]
    (repeat refine W_seq ?_)
    refine W_ret ?_
    try simp only [thenQ, blockQ]
    refine own_ret2 rfl ?_ rfl ?_ rfl
    · simp [get_cons, frz, loadsR, e]
    · simp [loadsR, e, refs]
theorem Bears_vm (h : Ha) (l : List Pu) (M : Mem) (F : Fin h) (hl : l.length ≤ 1000000) : VC Try.prog 25 [hallV h, pusV l] M (fun r M' => M' = M ∧ r = .tup [vi (bearsOut h l), vi (layoutErr h l)]) := by
  refine VC_own' T_ok (f := 25) (fn := Try.f25) (by kernel_rfl) rfl Try.ntmps25 (by rfl) (by rfl) ?_
  ((repeat refine W_seq ?_); refine W_region0 T_ok ?_)
  simp (maxSteps := 1000000) only [VL, vappend, ↓Gd_none, ↓Gd_t, ↓Gd_f, ev, ofValue, zipEnv, thenQ, blockQ, vfill, inOrder, toPss, toPs, toP, obound, keyOf, cellInts, elemsOf, nilV, extV, pickV, refs, refsL, isCell, cellsOf, strip1, gdV, pdOk, pdPush, pdTick, Back, cond_true, cond_false, if_true, if_false, forall_const, reduceIte, reduceCtorEq, Int.reduceLE, Int.reduceLT, Int.reduceToNat, Int.reduceNeg, Nat.reduceLT, Nat.reduceEqDiff, Nat.reduceAdd, Nat.reduceSub, Nat.reduceMul, Nat.reduceLeDiff]
  ((repeat refine W_seq ?_); refine W_region0 T_ok ?_)
  simp (maxSteps := 1000000) only [VL, vappend, ↓Gd_none, ↓Gd_t, ↓Gd_f, ev, ofValue, zipEnv, thenQ, blockQ, vfill, inOrder, toPss, toPs, toP, obound, keyOf, cellInts, elemsOf, nilV, extV, pickV, refs, refsL, isCell, cellsOf, strip1, gdV, pdOk, pdPush, pdTick, Back, cond_true, cond_false, if_true, if_false, forall_const, reduceIte, reduceCtorEq, Int.reduceLE, Int.reduceLT, Int.reduceToNat, Int.reduceNeg, Nat.reduceLT, Nat.reduceEqDiff, Nat.reduceAdd, Nat.reduceSub, Nat.reduceMul, Nat.reduceLeDiff]
  apply call_eq (f := 37) (fn := Try.f37) (by kernel_rfl) (by rfl)
  · exact checkLayout_vm h l _ F hl
  simp (maxSteps := 1000000) only [VL, vappend, ↓Gd_none, ↓Gd_t, ↓Gd_f, ev, ofValue, zipEnv, thenQ, blockQ, vfill, inOrder, toPss, toPs, toP, obound, keyOf, cellInts, elemsOf, nilV, extV, pickV, refs, refsL, isCell, cellsOf, strip1, gdV, pdOk, pdPush, pdTick, Back, cond_true, cond_false, if_true, if_false, forall_const, reduceIte, reduceCtorEq, Int.reduceLE, Int.reduceLT, Int.reduceToNat, Int.reduceNeg, Nat.reduceLT, Nat.reduceEqDiff, Nat.reduceAdd, Nat.reduceSub, Nat.reduceMul, Nat.reduceLeDiff]
  ((repeat refine W_seq ?_); refine W_region0 T_ok ?_)
  by_cases e : layoutErr h l = 0
  · have hL := (layout_ok.1 e).2
    have := lay_len hL
    simp (maxSteps := 1000000) only [VL, vappend, ↓Gd_none, ↓Gd_t, ↓Gd_f, ev, ofValue, zipEnv, thenQ, blockQ, vfill, inOrder, toPss, toPs, toP, obound, keyOf, cellInts, elemsOf, nilV, extV, pickV, refs, refsL, isCell, cellsOf, strip1, gdV, pdOk, pdPush, pdTick, Back, cond_true, cond_false, if_true, if_false, forall_const, reduceIte, reduceCtorEq, Int.reduceLE, Int.reduceLT, Int.reduceToNat, Int.reduceNeg, Nat.reduceLT, Nat.reduceEqDiff, Nat.reduceAdd, Nat.reduceSub, Nat.reduceMul, Nat.reduceLeDiff, e]
    ((repeat refine W_seq ?_); refine W_cond (b := false) (by first | rfl | simp only [ev, get_cons, Nat.reduceEqDiff, if_true, if_false, reduceIte]) (fun h => by cases h) (fun _ => ?_))
    ((repeat refine W_seq ?_); refine W_skip ?_)
    simp (maxSteps := 1000000) only [VL, vappend, ↓Gd_none, ↓Gd_t, ↓Gd_f, ev, ofValue, zipEnv, thenQ, blockQ, vfill, inOrder, toPss, toPs, toP, obound, keyOf, cellInts, elemsOf, nilV, extV, pickV, refs, refsL, isCell, cellsOf, strip1, gdV, pdOk, pdPush, pdTick, Back, cond_true, cond_false, if_true, if_false, forall_const, reduceIte, reduceCtorEq, Int.reduceLE, Int.reduceLT, Int.reduceToNat, Int.reduceNeg, Nat.reduceLT, Nat.reduceEqDiff, Nat.reduceAdd, Nat.reduceSub, Nat.reduceMul, Nat.reduceLeDiff]
    ((repeat refine W_seq ?_); refine W_region0 T_ok ?_)
    simp (maxSteps := 1000000) only [VL, vappend, ↓Gd_none, ↓Gd_t, ↓Gd_f, ev, ofValue, zipEnv, thenQ, blockQ, vfill, inOrder, toPss, toPs, toP, obound, keyOf, cellInts, elemsOf, nilV, extV, pickV, refs, refsL, isCell, cellsOf, strip1, gdV, pdOk, pdPush, pdTick, Back, cond_true, cond_false, if_true, if_false, forall_const, reduceIte, reduceCtorEq, Int.reduceLE, Int.reduceLT, Int.reduceToNat, Int.reduceNeg, Nat.reduceLT, Nat.reduceEqDiff, Nat.reduceAdd, Nat.reduceSub, Nat.reduceMul, Nat.reduceLeDiff]
    apply call_eq (f := 69) (fn := Try.f69) (by kernel_rfl) (by rfl)
    · exact bears_vm h l _ (VH.of (layout_ok.1 e).1) (lay_good hL) (by omega)
    simp (maxSteps := 1000000) only [VL, vappend, ↓Gd_none, ↓Gd_t, ↓Gd_f, ev, ofValue, zipEnv, thenQ, blockQ, vfill, inOrder, toPss, toPs, toP, obound, keyOf, cellInts, elemsOf, nilV, extV, pickV, refs, refsL, isCell, cellsOf, strip1, gdV, pdOk, pdPush, pdTick, Back, cond_true, cond_false, if_true, if_false, forall_const, reduceIte, reduceCtorEq, Int.reduceLE, Int.reduceLT, Int.reduceToNat, Int.reduceNeg, Nat.reduceLT, Nat.reduceEqDiff, Nat.reduceAdd, Nat.reduceSub, Nat.reduceMul, Nat.reduceLeDiff]
    (repeat refine W_seq ?_)
    refine W_ret ?_
    try simp only [thenQ, blockQ]
    refine own_ret2 rfl ?_ rfl rfl rfl
    simp [get_cons, frz, bearsOut, e]
  · simp (maxSteps := 1000000) only [VL, vappend, ↓Gd_none, ↓Gd_t, ↓Gd_f, ev, ofValue, zipEnv, thenQ, blockQ, vfill, inOrder, toPss, toPs, toP, obound, keyOf, cellInts, elemsOf, nilV, extV, pickV, refs, refsL, isCell, cellsOf, strip1, gdV, pdOk, pdPush, pdTick, Back, cond_true, cond_false, if_true, if_false, forall_const, reduceIte, reduceCtorEq, Int.reduceLE, Int.reduceLT, Int.reduceToNat, Int.reduceNeg, Nat.reduceLT, Nat.reduceEqDiff, Nat.reduceAdd, Nat.reduceSub, Nat.reduceMul, Nat.reduceLeDiff, e]
    ((repeat refine W_seq ?_); refine W_cond (b := true) (by first | rfl | simp only [ev, get_cons, Nat.reduceEqDiff, if_true, if_false, reduceIte]) (fun _ => ?_) (fun h => by cases h))
    ((repeat refine W_seq ?_); refine W_region0 T_ok ?_)
    simp (maxSteps := 1000000) only [VL, vappend, ↓Gd_none, ↓Gd_t, ↓Gd_f, ev, ofValue, zipEnv, thenQ, blockQ, vfill, inOrder, toPss, toPs, toP, obound, keyOf, cellInts, elemsOf, nilV, extV, pickV, refs, refsL, isCell, cellsOf, strip1, gdV, pdOk, pdPush, pdTick, Back, cond_true, cond_false, if_true, if_false, forall_const, reduceIte, reduceCtorEq, Int.reduceLE, Int.reduceLT, Int.reduceToNat, Int.reduceNeg, Nat.reduceLT, Nat.reduceEqDiff, Nat.reduceAdd, Nat.reduceSub, Nat.reduceMul, Nat.reduceLeDiff]
    (repeat refine W_seq ?_)
    refine W_ret ?_
    try simp only [thenQ, blockQ]
    refine own_ret2 rfl ?_ rfl rfl rfl
    simp [get_cons, frz, bearsOut, e]
end Go.Proofs.Ytijcmgfblpokhaa.Vm

/- The reference's small functions, on values. (Vm) -/
namespace Go.Proofs.Ytijcmgfblpokhaa.Vm
open Go Go.Proofs
theorem within_v (n lo hi : Int) (M : Mem) : VC Try.prog 54 [vi n, vi lo, vi hi] M (fun r M' => M' = M ∧ r = vb (inR n lo hi)) := by
  refine VC_own' T_ok (f := 54) (fn := Try.f54) (by kernel_rfl) rfl Try.ntmps54 (by rfl) (by rfl) ?_
  ((repeat refine W_seq ?_); refine W_region0 T_ok ?_)
  simp (maxSteps := 1000000) only [VL, vappend, ↓Gd_none, ↓Gd_t, ↓Gd_f, ev, ofValue, zipEnv, thenQ, blockQ, vfill, inOrder, toPss, toPs, toP, obound, keyOf, cellInts, elemsOf, nilV, extV, pickV, refs, refsL, isCell, cellsOf, strip1, gdV, pdOk, pdPush, pdTick, Back, cond_true, cond_false, if_true, if_false, forall_const, reduceIte, reduceCtorEq, Int.reduceLE, Int.reduceLT, Int.reduceToNat, Int.reduceNeg, Nat.reduceLT, Nat.reduceEqDiff, Nat.reduceAdd, Nat.reduceSub, Nat.reduceMul, Nat.reduceLeDiff]
  ((repeat refine W_seq ?_); refine W_region0 T_ok ?_)
  by_cases h1 : lo ≤ n <;> by_cases h2 : n ≤ hi
  all_goals
    simp (maxSteps := 1000000) only [VL, vappend, ↓Gd_none, ↓Gd_t, ↓Gd_f, ev, ofValue, zipEnv, thenQ, blockQ, vfill, inOrder, toPss, toPs, toP, obound, keyOf, cellInts, elemsOf, nilV, extV, pickV, refs, refsL, isCell, cellsOf, strip1, gdV, pdOk, pdPush, pdTick, Back, cond_true, cond_false, if_true, if_false, forall_const, reduceIte, reduceCtorEq, Int.reduceLE, Int.reduceLT, Int.reduceToNat, Int.reduceNeg, Nat.reduceLT, Nat.reduceEqDiff, Nat.reduceAdd, Nat.reduceSub, Nat.reduceMul, Nat.reduceLeDiff, h1, h2]
    (repeat refine W_seq ?_)
    refine W_ret ?_
    try simp only [thenQ, blockQ]
    refine own_ret10 rfl ?_ (by rfl)
    simp [get_cons, frz, inR, h1, h2]
theorem isPlace_v (h : Ha) (c : Pl) (M : Mem) (h1 : 1 ≤ h.wide) (h2 : h.wide ≤ 1000) (h3 : 1 ≤ h.deep) (h4 : h.deep ≤ 1000) : VC Try.prog 85 [hallV h, plV c] M (fun r M' => M' = M ∧ r = vb (isPl h c)) := by
  have k1 : -9223372036854775808 ≤ h.wide - 1 ∧ h.wide - 1 < 9223372036854775808 := by omega
  have k2 : -9223372036854775808 ≤ h.deep - 1 ∧ h.deep - 1 < 9223372036854775808 := by omega
  refine VC_own' T_ok (f := 85) (fn := Try.f85) (by kernel_rfl) rfl Try.ntmps85 (by rfl) (by rfl) ?_
  ((repeat refine W_seq ?_); refine W_region0 T_ok ?_)
  simp (maxSteps := 1000000) only [VL, vappend, ↓Gd_none, ↓Gd_t, ↓Gd_f, ev, ofValue, zipEnv, thenQ, blockQ, vfill, inOrder, toPss, toPs, toP, obound, keyOf, cellInts, elemsOf, nilV, extV, pickV, refs, refsL, isCell, cellsOf, strip1, gdV, pdOk, pdPush, pdTick, Back, cond_true, cond_false, if_true, if_false, forall_const, reduceIte, reduceCtorEq, Int.reduceLE, Int.reduceLT, Int.reduceToNat, Int.reduceNeg, Nat.reduceLT, Nat.reduceEqDiff, Nat.reduceAdd, Nat.reduceSub, Nat.reduceMul, Nat.reduceLeDiff]
  ((repeat refine W_seq ?_); refine W_region0 T_ok ?_)
  simp (maxSteps := 1000000) only [VL, vappend, ↓Gd_none, ↓Gd_t, ↓Gd_f, ev, ofValue, zipEnv, thenQ, blockQ, vfill, inOrder, toPss, toPs, toP, obound, keyOf, cellInts, elemsOf, nilV, extV, pickV, refs, refsL, isCell, cellsOf, strip1, gdV, pdOk, pdPush, pdTick, Back, cond_true, cond_false, if_true, if_false, forall_const, reduceIte, reduceCtorEq, Int.reduceLE, Int.reduceLT, Int.reduceToNat, Int.reduceNeg, Nat.reduceLT, Nat.reduceEqDiff, Nat.reduceAdd, Nat.reduceSub, Nat.reduceMul, Nat.reduceLeDiff, k1]
  apply call_eq (f := 54) (fn := Try.f54) (by kernel_rfl) (by rfl)
  · exact within_v _ _ _ _
  cases hb : inR c.x 0 (h.wide - 1)
  · simp (maxSteps := 1000000) only [VL, vappend, ↓Gd_none, ↓Gd_t, ↓Gd_f, ev, ofValue, zipEnv, thenQ, blockQ, vfill, inOrder, toPss, toPs, toP, obound, keyOf, cellInts, elemsOf, nilV, extV, pickV, refs, refsL, isCell, cellsOf, strip1, gdV, pdOk, pdPush, pdTick, Back, cond_true, cond_false, if_true, if_false, forall_const, reduceIte, reduceCtorEq, Int.reduceLE, Int.reduceLT, Int.reduceToNat, Int.reduceNeg, Nat.reduceLT, Nat.reduceEqDiff, Nat.reduceAdd, Nat.reduceSub, Nat.reduceMul, Nat.reduceLeDiff]
    (repeat refine W_seq ?_)
    refine W_ret ?_
    try simp only [thenQ, blockQ]
    refine own_ret1 rfl ?_ (by rfl)
    simp only [get_cons, frz, vtup, Nat.reduceEqDiff, if_true, if_false, reduceIte]
    simp [isPl, hb]
  · simp (maxSteps := 1000000) only [VL, vappend, ↓Gd_none, ↓Gd_t, ↓Gd_f, ev, ofValue, zipEnv, thenQ, blockQ, vfill, inOrder, toPss, toPs, toP, obound, keyOf, cellInts, elemsOf, nilV, extV, pickV, refs, refsL, isCell, cellsOf, strip1, gdV, pdOk, pdPush, pdTick, Back, cond_true, cond_false, if_true, if_false, forall_const, reduceIte, reduceCtorEq, Int.reduceLE, Int.reduceLT, Int.reduceToNat, Int.reduceNeg, Nat.reduceLT, Nat.reduceEqDiff, Nat.reduceAdd, Nat.reduceSub, Nat.reduceMul, Nat.reduceLeDiff, k2]
    apply call_eq (f := 54) (fn := Try.f54) (by kernel_rfl) (by rfl)
    · exact within_v _ _ _ _
    simp (maxSteps := 1000000) only [VL, vappend, ↓Gd_none, ↓Gd_t, ↓Gd_f, ev, ofValue, zipEnv, thenQ, blockQ, vfill, inOrder, toPss, toPs, toP, obound, keyOf, cellInts, elemsOf, nilV, extV, pickV, refs, refsL, isCell, cellsOf, strip1, gdV, pdOk, pdPush, pdTick, Back, cond_true, cond_false, if_true, if_false, forall_const, reduceIte, reduceCtorEq, Int.reduceLE, Int.reduceLT, Int.reduceToNat, Int.reduceNeg, Nat.reduceLT, Nat.reduceEqDiff, Nat.reduceAdd, Nat.reduceSub, Nat.reduceMul, Nat.reduceLeDiff]
    (repeat refine W_seq ?_)
    refine W_ret ?_
    try simp only [thenQ, blockQ]
    refine own_ret1 rfl ?_ (by rfl)
    simp only [get_cons, frz, vtup, Nat.reduceEqDiff, if_true, if_false, reduceIte]
    simp [isPl, hb]
theorem any_has2 (c : Pl) (xs : List Pl) : xs.any (fun x => decide (x = c)) = hasPl xs c := by
  rw [← any_has]
  congr 1
  funext x
  by_cases h : x = c
  · subst h; rfl
  · rw [decide_eq_false h, decide_eq_false (fun e => h e.symm)]
theorem has_v (c : Pl) (xs : List Pl) (M : Mem) (hl : xs.length ≤ 1000000) : VC Try.prog 86 [plsV xs, plV c] M (fun r M' => M' = M ∧ r = vb (hasPl xs c)) := by
  refine VC_own' T_ok (f := 86) (fn := Try.f86) (by kernel_rfl) rfl Try.ntmps86 (by rfl) (by rfl) ?_
  ((repeat refine W_seq ?_); refine W_region0 T_ok ?_)
  simp (maxSteps := 1000000) only [VL, vappend, ↓Gd_none, ↓Gd_t, ↓Gd_f, ev, ofValue, zipEnv, thenQ, blockQ, vfill, inOrder, toPss, toPs, toP, obound, keyOf, cellInts, elemsOf, nilV, extV, pickV, refs, refsL, isCell, cellsOf, strip1, gdV, pdOk, pdPush, pdTick, Back, cond_true, cond_false, if_true, if_false, forall_const, reduceIte, reduceCtorEq, Int.reduceLE, Int.reduceLT, Int.reduceToNat, Int.reduceNeg, Nat.reduceLT, Nat.reduceEqDiff, Nat.reduceAdd, Nat.reduceSub, Nat.reduceMul, Nat.reduceLeDiff]
  ((repeat refine W_seq ?_); refine W_region0 T_ok ?_)
  simp (maxSteps := 1000000) only [VL, vappend, ↓Gd_none, ↓Gd_t, ↓Gd_f, ev, ofValue, zipEnv, thenQ, blockQ, vfill, inOrder, toPss, toPs, toP, obound, keyOf, cellInts, elemsOf, nilV, extV, pickV, refs, refsL, isCell, cellsOf, strip1, gdV, pdOk, pdPush, pdTick, Back, cond_true, cond_false, if_true, if_false, forall_const, reduceIte, reduceCtorEq, Int.reduceLE, Int.reduceLT, Int.reduceToNat, Int.reduceNeg, Nat.reduceLT, Nat.reduceEqDiff, Nat.reduceAdd, Nat.reduceSub, Nat.reduceMul, Nat.reduceLeDiff]
  ((repeat refine W_seq ?_); refine W_block ?_; (repeat refine W_seq ?_)); refine W_loopS (fun i : Nat => [(0, plsV xs), (3, .ptr M.H.length 0), (5, vi i)]) (fun _ => ⟨M.H ++ [VObj.obj [vi c.x, vi c.y]], M.lg⟩) (fun i => xs.length - i) (fun i => i ≤ xs.length ∧ (xs.take i).any (fun x => decide (x = c)) = false) 0 ⟨by omega, by simp⟩ ⟨rfl, rfl, rfl, trivial⟩ rfl ?_
  rintro i ⟨hi, hno⟩
  have k1 : -9223372036854775808 ≤ (i : Int) + 1 ∧ (i : Int) + 1 < 9223372036854775808 := by omega
  ((repeat refine W_seq ?_); refine W_region0 T_ok ?_)
  rcases Nat.lt_or_ge i xs.length with hlt | hge
  · have k2 : ((i : Int) < (xs.length : Int)) = True := eq_true (by omega)
    have hx : xs[i]? = some xs[i] := List.getElem?_eq_getElem hlt
    have hx' := map_at (f := plP) hx
    generalize hd : xs[i] = d at hx hx'
    simp (maxSteps := 1000000) only [VL, vappend, ↓Gd_none, ↓Gd_t, ↓Gd_f, ev, ofValue, zipEnv, thenQ, blockQ, vfill, inOrder, toPss, toPs, toP, obound, keyOf, cellInts, elemsOf, nilV, extV, pickV, refs, refsL, isCell, cellsOf, strip1, gdV, pdOk, pdPush, pdTick, Back, cond_true, cond_false, if_true, if_false, forall_const, reduceIte, reduceCtorEq, Int.reduceLE, Int.reduceLT, Int.reduceToNat, Int.reduceNeg, Nat.reduceLT, Nat.reduceEqDiff, Nat.reduceAdd, Nat.reduceSub, Nat.reduceMul, Nat.reduceLeDiff, k2]
    ((repeat refine W_seq ?_); refine W_cond (b := true) (by first | rfl | simp only [ev, get_cons, Nat.reduceEqDiff, if_true, if_false, reduceIte]) (fun _ => ?_) (fun h => by cases h))
    ((repeat refine W_seq ?_); refine W_skip ?_)
    simp (maxSteps := 1000000) only [VL, vappend, ↓Gd_none, ↓Gd_t, ↓Gd_f, ev, ofValue, zipEnv, thenQ, blockQ, vfill, inOrder, toPss, toPs, toP, obound, keyOf, cellInts, elemsOf, nilV, extV, pickV, refs, refsL, isCell, cellsOf, strip1, gdV, pdOk, pdPush, pdTick, Back, cond_true, cond_false, if_true, if_false, forall_const, reduceIte, reduceCtorEq, Int.reduceLE, Int.reduceLT, Int.reduceToNat, Int.reduceNeg, Nat.reduceLT, Nat.reduceEqDiff, Nat.reduceAdd, Nat.reduceSub, Nat.reduceMul, Nat.reduceLeDiff]
    ((repeat refine W_seq ?_); refine W_block ?_)
    (repeat refine W_seq ?_)
    refine W_drawP T_ok [] (by kernel_rfl) (by kernel_rfl) ?_
    generalize hi : mkPlan _ = infs
    cbv at hi
    subst hi
    simp (maxSteps := 1000000) only [VL, vappend, ↓Gd_none, ↓Gd_t, ↓Gd_f, ev, ofValue, zipEnv, thenQ, blockQ, vfill, inOrder, toPss, toPs, toP, obound, keyOf, cellInts, elemsOf, nilV, extV, pickV, refs, refsL, isCell, cellsOf, strip1, gdV, pdOk, pdPush, pdTick, Back, cond_true, cond_false, if_true, if_false, forall_const, reduceIte, reduceCtorEq, Int.reduceLE, Int.reduceLT, Int.reduceToNat, Int.reduceNeg, Nat.reduceLT, Nat.reduceEqDiff, Nat.reduceAdd, Nat.reduceSub, Nat.reduceMul, Nat.reduceLeDiff, hx']
    cases hp : decide (d = c)
    · ((repeat refine W_seq ?_); refine W_cond (b := false) (by first | rfl | simp only [ev, get_cons, Nat.reduceEqDiff, if_true, if_false, reduceIte]) (fun h => by cases h) (fun _ => ?_))
      ((repeat refine W_seq ?_); refine W_skip ?_)
      simp (maxSteps := 1000000) only [VL, vappend, ↓Gd_none, ↓Gd_t, ↓Gd_f, ev, ofValue, zipEnv, thenQ, blockQ, vfill, inOrder, toPss, toPs, toP, obound, keyOf, cellInts, elemsOf, nilV, extV, pickV, refs, refsL, isCell, cellsOf, strip1, gdV, pdOk, pdPush, pdTick, Back, cond_true, cond_false, if_true, if_false, forall_const, reduceIte, reduceCtorEq, Int.reduceLE, Int.reduceLT, Int.reduceToNat, Int.reduceNeg, Nat.reduceLT, Nat.reduceEqDiff, Nat.reduceAdd, Nat.reduceSub, Nat.reduceMul, Nat.reduceLeDiff]
      ((repeat refine W_seq ?_); refine W_region0 T_ok ?_)
      simp (maxSteps := 1000000) only [VL, vappend, ↓Gd_none, ↓Gd_t, ↓Gd_f, ev, ofValue, zipEnv, thenQ, blockQ, vfill, inOrder, toPss, toPs, toP, obound, keyOf, cellInts, elemsOf, nilV, extV, pickV, refs, refsL, isCell, cellsOf, strip1, gdV, pdOk, pdPush, pdTick, Back, cond_true, cond_false, if_true, if_false, forall_const, reduceIte, reduceCtorEq, Int.reduceLE, Int.reduceLT, Int.reduceToNat, Int.reduceNeg, Nat.reduceLT, Nat.reduceEqDiff, Nat.reduceAdd, Nat.reduceSub, Nat.reduceMul, Nat.reduceLeDiff, k1]
      refine LoopK.mk (i + 1) (by omega) ⟨by omega, ?_⟩ ⟨rfl, rfl, rfl, trivial⟩ rfl
      rw [any_take _ xs i _ hx, hno, hp]; rfl
    · ((repeat refine W_seq ?_); refine W_cond (b := true) (by first | rfl | simp only [ev, get_cons, Nat.reduceEqDiff, if_true, if_false, reduceIte]) (fun _ => ?_) (fun h => by cases h))
      ((repeat refine W_seq ?_); refine W_region0 T_ok ?_)
      simp (maxSteps := 1000000) only [VL, vappend, ↓Gd_none, ↓Gd_t, ↓Gd_f, ev, ofValue, zipEnv, thenQ, blockQ, vfill, inOrder, toPss, toPs, toP, obound, keyOf, cellInts, elemsOf, nilV, extV, pickV, refs, refsL, isCell, cellsOf, strip1, gdV, pdOk, pdPush, pdTick, Back, cond_true, cond_false, if_true, if_false, forall_const, reduceIte, reduceCtorEq, Int.reduceLE, Int.reduceLT, Int.reduceToNat, Int.reduceNeg, Nat.reduceLT, Nat.reduceEqDiff, Nat.reduceAdd, Nat.reduceSub, Nat.reduceMul, Nat.reduceLeDiff]
      (repeat refine W_seq ?_)
      refine W_ret ?_
      try simp only [thenQ, blockQ]
      refine own_ret1 rfl ?_ (by rfl)
      simp only [get_cons, frz, vtup, Nat.reduceEqDiff, if_true, if_false, reduceIte]
      rw [← any_has2, any_hit _ xs i _ hx hp]
  · have k2 : ((i : Int) < (xs.length : Int)) = False := eq_false (by omega)
    simp (maxSteps := 1000000) only [VL, vappend, ↓Gd_none, ↓Gd_t, ↓Gd_f, ev, ofValue, zipEnv, thenQ, blockQ, vfill, inOrder, toPss, toPs, toP, obound, keyOf, cellInts, elemsOf, nilV, extV, pickV, refs, refsL, isCell, cellsOf, strip1, gdV, pdOk, pdPush, pdTick, Back, cond_true, cond_false, if_true, if_false, forall_const, reduceIte, reduceCtorEq, Int.reduceLE, Int.reduceLT, Int.reduceToNat, Int.reduceNeg, Nat.reduceLT, Nat.reduceEqDiff, Nat.reduceAdd, Nat.reduceSub, Nat.reduceMul, Nat.reduceLeDiff, k1, k2]
    ((repeat refine W_seq ?_); refine W_cond (b := false) (by first | rfl | simp only [ev, get_cons, Nat.reduceEqDiff, if_true, if_false, reduceIte]) (fun h => by cases h) (fun _ => ?_))
    ((repeat refine W_seq ?_); refine W_exit ?_)
    simp (maxSteps := 1000000) only [VL, vappend, ↓Gd_none, ↓Gd_t, ↓Gd_f, ev, ofValue, zipEnv, thenQ, blockQ, vfill, inOrder, toPss, toPs, toP, obound, keyOf, cellInts, elemsOf, nilV, extV, pickV, refs, refsL, isCell, cellsOf, strip1, gdV, pdOk, pdPush, pdTick, Back, cond_true, cond_false, if_true, if_false, forall_const, reduceIte, reduceCtorEq, Int.reduceLE, Int.reduceLT, Int.reduceToNat, Int.reduceNeg, Nat.reduceLT, Nat.reduceEqDiff, Nat.reduceAdd, Nat.reduceSub, Nat.reduceMul, Nat.reduceLeDiff]
    ((repeat refine W_seq ?_); refine W_region0 T_ok ?_)
    simp (maxSteps := 1000000) only [VL, vappend, ↓Gd_none, ↓Gd_t, ↓Gd_f, ev, ofValue, zipEnv, thenQ, blockQ, vfill, inOrder, toPss, toPs, toP, obound, keyOf, cellInts, elemsOf, nilV, extV, pickV, refs, refsL, isCell, cellsOf, strip1, gdV, pdOk, pdPush, pdTick, Back, cond_true, cond_false, if_true, if_false, forall_const, reduceIte, reduceCtorEq, Int.reduceLE, Int.reduceLT, Int.reduceToNat, Int.reduceNeg, Nat.reduceLT, Nat.reduceEqDiff, Nat.reduceAdd, Nat.reduceSub, Nat.reduceMul, Nat.reduceLeDiff]
    (repeat refine W_seq ?_)
    refine W_ret ?_
    try simp only [thenQ, blockQ]
    refine own_ret1 rfl ?_ (by rfl)
    simp only [get_cons, frz, vtup, Nat.reduceEqDiff, if_true, if_false, reduceIte]
    rw [List.take_of_length_le hge] at hno
    rw [← any_has2, hno]
theorem checkCells_v (h : Ha) (l : List Pl) (M : Mem) (w1 : 1 ≤ h.wide) (w2 : h.wide ≤ 1000) (d1 : 1 ≤ h.deep) (d2 : h.deep ≤ 1000) (hl : l.length ≤ 1000000) : VC Try.prog 55 [hallV h, plsV l] M (fun r M' => M' = M ∧ r = vi (cellsErr h l)) := by
  refine VC_own' T_ok (f := 55) (fn := Try.f55) (by kernel_rfl) rfl Try.ntmps55 (by rfl) (by rfl) ?_
  ((repeat refine W_seq ?_); refine W_region0 T_ok ?_)
  simp (maxSteps := 1000000) only [VL, vappend, ↓Gd_none, ↓Gd_t, ↓Gd_f, ev, ofValue, zipEnv, thenQ, blockQ, vfill, inOrder, toPss, toPs, toP, obound, keyOf, cellInts, elemsOf, nilV, extV, pickV, refs, refsL, isCell, cellsOf, strip1, gdV, pdOk, pdPush, pdTick, Back, cond_true, cond_false, if_true, if_false, forall_const, reduceIte, reduceCtorEq, Int.reduceLE, Int.reduceLT, Int.reduceToNat, Int.reduceNeg, Nat.reduceLT, Nat.reduceEqDiff, Nat.reduceAdd, Nat.reduceSub, Nat.reduceMul, Nat.reduceLeDiff]
  ((repeat refine W_seq ?_); refine W_region0 T_ok ?_)
  rcases Nat.lt_or_ge 24 l.length with h24 | h24
  · have k0 : ((24 : Int) < (l.length : Int)) = True := eq_true (by omega)
    simp (maxSteps := 1000000) only [VL, vappend, ↓Gd_none, ↓Gd_t, ↓Gd_f, ev, ofValue, zipEnv, thenQ, blockQ, vfill, inOrder, toPss, toPs, toP, obound, keyOf, cellInts, elemsOf, nilV, extV, pickV, refs, refsL, isCell, cellsOf, strip1, gdV, pdOk, pdPush, pdTick, Back, cond_true, cond_false, if_true, if_false, forall_const, reduceIte, reduceCtorEq, Int.reduceLE, Int.reduceLT, Int.reduceToNat, Int.reduceNeg, Nat.reduceLT, Nat.reduceEqDiff, Nat.reduceAdd, Nat.reduceSub, Nat.reduceMul, Nat.reduceLeDiff, k0]
    ((repeat refine W_seq ?_); refine W_cond (b := true) (by first | rfl | simp only [ev, get_cons, Nat.reduceEqDiff, if_true, if_false, reduceIte]) (fun _ => ?_) (fun h => by cases h))
    ((repeat refine W_seq ?_); refine W_region0 T_ok ?_)
    simp (maxSteps := 1000000) only [VL, vappend, ↓Gd_none, ↓Gd_t, ↓Gd_f, ev, ofValue, zipEnv, thenQ, blockQ, vfill, inOrder, toPss, toPs, toP, obound, keyOf, cellInts, elemsOf, nilV, extV, pickV, refs, refsL, isCell, cellsOf, strip1, gdV, pdOk, pdPush, pdTick, Back, cond_true, cond_false, if_true, if_false, forall_const, reduceIte, reduceCtorEq, Int.reduceLE, Int.reduceLT, Int.reduceToNat, Int.reduceNeg, Nat.reduceLT, Nat.reduceEqDiff, Nat.reduceAdd, Nat.reduceSub, Nat.reduceMul, Nat.reduceLeDiff]
    (repeat refine W_seq ?_)
    refine W_ret ?_
    try simp only [thenQ, blockQ]
    refine own_ret1 rfl ?_ (by rfl)
    simp only [get_cons, frz, vtup, Nat.reduceEqDiff, if_true, if_false, reduceIte]
    simp [cellsErr, h24]
  have k0 : ((24 : Int) < (l.length : Int)) = False := eq_false (by omega)
  simp (maxSteps := 1000000) only [VL, vappend, ↓Gd_none, ↓Gd_t, ↓Gd_f, ev, ofValue, zipEnv, thenQ, blockQ, vfill, inOrder, toPss, toPs, toP, obound, keyOf, cellInts, elemsOf, nilV, extV, pickV, refs, refsL, isCell, cellsOf, strip1, gdV, pdOk, pdPush, pdTick, Back, cond_true, cond_false, if_true, if_false, forall_const, reduceIte, reduceCtorEq, Int.reduceLE, Int.reduceLT, Int.reduceToNat, Int.reduceNeg, Nat.reduceLT, Nat.reduceEqDiff, Nat.reduceAdd, Nat.reduceSub, Nat.reduceMul, Nat.reduceLeDiff, k0]
  ((repeat refine W_seq ?_); refine W_cond (b := false) (by first | rfl | simp only [ev, get_cons, Nat.reduceEqDiff, if_true, if_false, reduceIte]) (fun h => by cases h) (fun _ => ?_))
  ((repeat refine W_seq ?_); refine W_skip ?_)
  simp (maxSteps := 1000000) only [VL, vappend, ↓Gd_none, ↓Gd_t, ↓Gd_f, ev, ofValue, zipEnv, thenQ, blockQ, vfill, inOrder, toPss, toPs, toP, obound, keyOf, cellInts, elemsOf, nilV, extV, pickV, refs, refsL, isCell, cellsOf, strip1, gdV, pdOk, pdPush, pdTick, Back, cond_true, cond_false, if_true, if_false, forall_const, reduceIte, reduceCtorEq, Int.reduceLE, Int.reduceLT, Int.reduceToNat, Int.reduceNeg, Nat.reduceLT, Nat.reduceEqDiff, Nat.reduceAdd, Nat.reduceSub, Nat.reduceMul, Nat.reduceLeDiff]
  ((repeat refine W_seq ?_); refine W_region0 T_ok ?_)
  simp (maxSteps := 1000000) only [VL, vappend, ↓Gd_none, ↓Gd_t, ↓Gd_f, ev, ofValue, zipEnv, thenQ, blockQ, vfill, inOrder, toPss, toPs, toP, obound, keyOf, cellInts, elemsOf, nilV, extV, pickV, refs, refsL, isCell, cellsOf, strip1, gdV, pdOk, pdPush, pdTick, Back, cond_true, cond_false, if_true, if_false, forall_const, reduceIte, reduceCtorEq, Int.reduceLE, Int.reduceLT, Int.reduceToNat, Int.reduceNeg, Nat.reduceLT, Nat.reduceEqDiff, Nat.reduceAdd, Nat.reduceSub, Nat.reduceMul, Nat.reduceLeDiff]
  ((repeat refine W_seq ?_); refine W_block ?_; (repeat refine W_seq ?_)); refine W_loopS (fun i : Nat => [(0, hallV h), (1, plsV l), (2, VV.ptr M.H.length 0), (5, vi i)]) (fun _ => ⟨M.H ++ [VObj.obj [vi h.wide, vi h.deep, plsV h.water, plsV h.shut, vi h.bay.x, vi h.bay.y, intsV h.bears, kisV h.kinds]], M.lg⟩) (fun i => l.length - i) (fun i => i ≤ l.length ∧ firstErr (cellErr h l) i = 0) 0 ⟨Nat.zero_le _, rfl⟩ ⟨rfl, rfl, rfl, rfl, trivial⟩ rfl ?_
  rintro i ⟨hi, hno⟩
  have k1 : -9223372036854775808 ≤ (i : Int) + 1 ∧ (i : Int) + 1 < 9223372036854775808 := by omega
  ((repeat refine W_seq ?_); refine W_region0 T_ok ?_)
  rcases Nat.lt_or_ge i l.length with hlt | hge
  · have k2 : ((i : Int) < (l.length : Int)) = True := eq_true (by omega)
    have hx : l[i]? = some l[i] := List.getElem?_eq_getElem hlt
    have hx' := map_at (f := plP) hx
    generalize hc : l[i] = c at hx hx'
    have hce : cellErr h l i = if !isPl h c then 3 else if hasPl (l.take i) c then 4 else 0 := by simp [cellErr, hx]
    simp (maxSteps := 1000000) only [VL, vappend, ↓Gd_none, ↓Gd_t, ↓Gd_f, ev, ofValue, zipEnv, thenQ, blockQ, vfill, inOrder, toPss, toPs, toP, obound, keyOf, cellInts, elemsOf, nilV, extV, pickV, refs, refsL, isCell, cellsOf, strip1, gdV, pdOk, pdPush, pdTick, Back, cond_true, cond_false, if_true, if_false, forall_const, reduceIte, reduceCtorEq, Int.reduceLE, Int.reduceLT, Int.reduceToNat, Int.reduceNeg, Nat.reduceLT, Nat.reduceEqDiff, Nat.reduceAdd, Nat.reduceSub, Nat.reduceMul, Nat.reduceLeDiff, k2]
    ((repeat refine W_seq ?_); refine W_cond (b := true) (by first | rfl | simp only [ev, get_cons, Nat.reduceEqDiff, if_true, if_false, reduceIte]) (fun _ => ?_) (fun h => by cases h))
    ((repeat refine W_seq ?_); refine W_skip ?_)
    simp (maxSteps := 1000000) only [VL, vappend, ↓Gd_none, ↓Gd_t, ↓Gd_f, ev, ofValue, zipEnv, thenQ, blockQ, vfill, inOrder, toPss, toPs, toP, obound, keyOf, cellInts, elemsOf, nilV, extV, pickV, refs, refsL, isCell, cellsOf, strip1, gdV, pdOk, pdPush, pdTick, Back, cond_true, cond_false, if_true, if_false, forall_const, reduceIte, reduceCtorEq, Int.reduceLE, Int.reduceLT, Int.reduceToNat, Int.reduceNeg, Nat.reduceLT, Nat.reduceEqDiff, Nat.reduceAdd, Nat.reduceSub, Nat.reduceMul, Nat.reduceLeDiff]
    ((repeat refine W_seq ?_); refine W_block ?_)
    (repeat refine W_seq ?_)
    refine W_drawP T_ok [] (by kernel_rfl) (by kernel_rfl) ?_
    generalize hi : mkPlan _ = infs
    cbv at hi
    subst hi
    simp (maxSteps := 1000000) only [VL, vappend, ↓Gd_none, ↓Gd_t, ↓Gd_f, ev, ofValue, zipEnv, thenQ, blockQ, vfill, inOrder, toPss, toPs, toP, obound, keyOf, cellInts, elemsOf, nilV, extV, pickV, refs, refsL, isCell, cellsOf, strip1, gdV, pdOk, pdPush, pdTick, Back, cond_true, cond_false, if_true, if_false, forall_const, reduceIte, reduceCtorEq, Int.reduceLE, Int.reduceLT, Int.reduceToNat, Int.reduceNeg, Nat.reduceLT, Nat.reduceEqDiff, Nat.reduceAdd, Nat.reduceSub, Nat.reduceMul, Nat.reduceLeDiff, hx']
    apply call_d (f := 85) (fn := Try.f85) (by kernel_rfl) (by rfl)
    · exact isPlace_v h c _ w1 w2 d1 d2
    simp (maxSteps := 1000000) only [VL, vappend, ↓Gd_none, ↓Gd_t, ↓Gd_f, ev, ofValue, zipEnv, thenQ, blockQ, vfill, inOrder, toPss, toPs, toP, obound, keyOf, cellInts, elemsOf, nilV, extV, pickV, refs, refsL, isCell, cellsOf, strip1, gdV, pdOk, pdPush, pdTick, Back, cond_true, cond_false, if_true, if_false, forall_const, reduceIte, reduceCtorEq, Int.reduceLE, Int.reduceLT, Int.reduceToNat, Int.reduceNeg, Nat.reduceLT, Nat.reduceEqDiff, Nat.reduceAdd, Nat.reduceSub, Nat.reduceMul, Nat.reduceLeDiff]
    cases hp : isPl h c
    · ((repeat refine W_seq ?_); refine W_cond (b := true) (by first | rfl | simp only [ev, get_cons, Nat.reduceEqDiff, if_true, if_false, reduceIte]) (fun _ => ?_) (fun h => by cases h))
      ((repeat refine W_seq ?_); refine W_region0 T_ok ?_)
      simp (maxSteps := 1000000) only [VL, vappend, ↓Gd_none, ↓Gd_t, ↓Gd_f, ev, ofValue, zipEnv, thenQ, blockQ, vfill, inOrder, toPss, toPs, toP, obound, keyOf, cellInts, elemsOf, nilV, extV, pickV, refs, refsL, isCell, cellsOf, strip1, gdV, pdOk, pdPush, pdTick, Back, cond_true, cond_false, if_true, if_false, forall_const, reduceIte, reduceCtorEq, Int.reduceLE, Int.reduceLT, Int.reduceToNat, Int.reduceNeg, Nat.reduceLT, Nat.reduceEqDiff, Nat.reduceAdd, Nat.reduceSub, Nat.reduceMul, Nat.reduceLeDiff]
      (repeat refine W_seq ?_)
      refine W_ret ?_
      try simp only [thenQ, blockQ]
      refine own_ret1 rfl ?_ (by rfl)
      simp only [get_cons, frz, vtup, Nat.reduceEqDiff, if_true, if_false, reduceIte]
      have hne : cellErr h l i ≠ 0 := by rw [hce, hp]; simp
      have := firstErr_hit hno hne hlt
      rw [cellsErr, if_neg (by omega), this, hce, hp]
      rfl
    · ((repeat refine W_seq ?_); refine W_cond (b := false) (by first | rfl | simp only [ev, get_cons, Nat.reduceEqDiff, if_true, if_false, reduceIte]) (fun h => by cases h) (fun _ => ?_))
      ((repeat refine W_seq ?_); refine W_skip ?_)
      simp (maxSteps := 1000000) only [VL, vappend, ↓Gd_none, ↓Gd_t, ↓Gd_f, ev, ofValue, zipEnv, thenQ, blockQ, vfill, inOrder, toPss, toPs, toP, obound, keyOf, cellInts, elemsOf, nilV, extV, pickV, refs, refsL, isCell, cellsOf, strip1, gdV, pdOk, pdPush, pdTick, Back, cond_true, cond_false, if_true, if_false, forall_const, reduceIte, reduceCtorEq, Int.reduceLE, Int.reduceLT, Int.reduceToNat, Int.reduceNeg, Nat.reduceLT, Nat.reduceEqDiff, Nat.reduceAdd, Nat.reduceSub, Nat.reduceMul, Nat.reduceLeDiff]
      (repeat refine W_seq ?_)
      refine W_drawP T_ok [] (by kernel_rfl) (by kernel_rfl) ?_
      generalize hi : mkPlan _ = infs
      cbv at hi
      subst hi
      simp (maxSteps := 1000000) only [VL, vappend, ↓Gd_none, ↓Gd_t, ↓Gd_f, ev, ofValue, zipEnv, thenQ, blockQ, vfill, inOrder, toPss, toPs, toP, obound, keyOf, cellInts, elemsOf, nilV, extV, pickV, refs, refsL, isCell, cellsOf, strip1, gdV, pdOk, pdPush, pdTick, Back, cond_true, cond_false, if_true, if_false, forall_const, reduceIte, reduceCtorEq, Int.reduceLE, Int.reduceLT, Int.reduceToNat, Int.reduceNeg, Nat.reduceLT, Nat.reduceEqDiff, Nat.reduceAdd, Nat.reduceSub, Nat.reduceMul, Nat.reduceLeDiff, hx', hi]
      apply call_d (f := 86) (fn := Try.f86) (by kernel_rfl) (by rfl)
      · exact has_v c (l.take i) _ (by rw [List.length_take]; omega)
      simp (maxSteps := 1000000) only [VL, vappend, ↓Gd_none, ↓Gd_t, ↓Gd_f, ev, ofValue, zipEnv, thenQ, blockQ, vfill, inOrder, toPss, toPs, toP, obound, keyOf, cellInts, elemsOf, nilV, extV, pickV, refs, refsL, isCell, cellsOf, strip1, gdV, pdOk, pdPush, pdTick, Back, cond_true, cond_false, if_true, if_false, forall_const, reduceIte, reduceCtorEq, Int.reduceLE, Int.reduceLT, Int.reduceToNat, Int.reduceNeg, Nat.reduceLT, Nat.reduceEqDiff, Nat.reduceAdd, Nat.reduceSub, Nat.reduceMul, Nat.reduceLeDiff, hx', hi]
      cases hq : hasPl (l.take i) c
      · ((repeat refine W_seq ?_); refine W_cond (b := false) (by first | rfl | simp only [ev, get_cons, Nat.reduceEqDiff, if_true, if_false, reduceIte]) (fun h => by cases h) (fun _ => ?_))
        ((repeat refine W_seq ?_); refine W_skip ?_)
        simp (maxSteps := 1000000) only [VL, vappend, ↓Gd_none, ↓Gd_t, ↓Gd_f, ev, ofValue, zipEnv, thenQ, blockQ, vfill, inOrder, toPss, toPs, toP, obound, keyOf, cellInts, elemsOf, nilV, extV, pickV, refs, refsL, isCell, cellsOf, strip1, gdV, pdOk, pdPush, pdTick, Back, cond_true, cond_false, if_true, if_false, forall_const, reduceIte, reduceCtorEq, Int.reduceLE, Int.reduceLT, Int.reduceToNat, Int.reduceNeg, Nat.reduceLT, Nat.reduceEqDiff, Nat.reduceAdd, Nat.reduceSub, Nat.reduceMul, Nat.reduceLeDiff]
        ((repeat refine W_seq ?_); refine W_region0 T_ok ?_)
        simp (maxSteps := 1000000) only [VL, vappend, ↓Gd_none, ↓Gd_t, ↓Gd_f, ev, ofValue, zipEnv, thenQ, blockQ, vfill, inOrder, toPss, toPs, toP, obound, keyOf, cellInts, elemsOf, nilV, extV, pickV, refs, refsL, isCell, cellsOf, strip1, gdV, pdOk, pdPush, pdTick, Back, cond_true, cond_false, if_true, if_false, forall_const, reduceIte, reduceCtorEq, Int.reduceLE, Int.reduceLT, Int.reduceToNat, Int.reduceNeg, Nat.reduceLT, Nat.reduceEqDiff, Nat.reduceAdd, Nat.reduceSub, Nat.reduceMul, Nat.reduceLeDiff, k1]
        refine LoopK.mk (i + 1) (by omega) ⟨by omega, firstErr_step hno (by rw [hce, hp, hq]; rfl)⟩ ⟨rfl, rfl, rfl, rfl, trivial⟩ rfl
      · ((repeat refine W_seq ?_); refine W_cond (b := true) (by first | rfl | simp only [ev, get_cons, Nat.reduceEqDiff, if_true, if_false, reduceIte]) (fun _ => ?_) (fun h => by cases h))
        ((repeat refine W_seq ?_); refine W_region0 T_ok ?_)
        simp (maxSteps := 1000000) only [VL, vappend, ↓Gd_none, ↓Gd_t, ↓Gd_f, ev, ofValue, zipEnv, thenQ, blockQ, vfill, inOrder, toPss, toPs, toP, obound, keyOf, cellInts, elemsOf, nilV, extV, pickV, refs, refsL, isCell, cellsOf, strip1, gdV, pdOk, pdPush, pdTick, Back, cond_true, cond_false, if_true, if_false, forall_const, reduceIte, reduceCtorEq, Int.reduceLE, Int.reduceLT, Int.reduceToNat, Int.reduceNeg, Nat.reduceLT, Nat.reduceEqDiff, Nat.reduceAdd, Nat.reduceSub, Nat.reduceMul, Nat.reduceLeDiff]
        (repeat refine W_seq ?_)
        refine W_ret ?_
        try simp only [thenQ, blockQ]
        refine own_ret1 rfl ?_ (by rfl)
        simp only [get_cons, frz, vtup, Nat.reduceEqDiff, if_true, if_false, reduceIte]
        have hne : cellErr h l i ≠ 0 := by rw [hce, hp, hq]; simp
        have := firstErr_hit hno hne hlt
        rw [cellsErr, if_neg (by omega), this, hce, hp, hq]
        rfl
  · have k2 : ((i : Int) < (l.length : Int)) = False := eq_false (by omega)
    simp (maxSteps := 1000000) only [VL, vappend, ↓Gd_none, ↓Gd_t, ↓Gd_f, ev, ofValue, zipEnv, thenQ, blockQ, vfill, inOrder, toPss, toPs, toP, obound, keyOf, cellInts, elemsOf, nilV, extV, pickV, refs, refsL, isCell, cellsOf, strip1, gdV, pdOk, pdPush, pdTick, Back, cond_true, cond_false, if_true, if_false, forall_const, reduceIte, reduceCtorEq, Int.reduceLE, Int.reduceLT, Int.reduceToNat, Int.reduceNeg, Nat.reduceLT, Nat.reduceEqDiff, Nat.reduceAdd, Nat.reduceSub, Nat.reduceMul, Nat.reduceLeDiff, k2]
    ((repeat refine W_seq ?_); refine W_cond (b := false) (by first | rfl | simp only [ev, get_cons, Nat.reduceEqDiff, if_true, if_false, reduceIte]) (fun h => by cases h) (fun _ => ?_))
    ((repeat refine W_seq ?_); refine W_exit ?_)
    simp (maxSteps := 1000000) only [VL, vappend, ↓Gd_none, ↓Gd_t, ↓Gd_f, ev, ofValue, zipEnv, thenQ, blockQ, vfill, inOrder, toPss, toPs, toP, obound, keyOf, cellInts, elemsOf, nilV, extV, pickV, refs, refsL, isCell, cellsOf, strip1, gdV, pdOk, pdPush, pdTick, Back, cond_true, cond_false, if_true, if_false, forall_const, reduceIte, reduceCtorEq, Int.reduceLE, Int.reduceLT, Int.reduceToNat, Int.reduceNeg, Nat.reduceLT, Nat.reduceEqDiff, Nat.reduceAdd, Nat.reduceSub, Nat.reduceMul, Nat.reduceLeDiff]
    ((repeat refine W_seq ?_); refine W_region0 T_ok ?_)
    simp (maxSteps := 1000000) only [VL, vappend, ↓Gd_none, ↓Gd_t, ↓Gd_f, ev, ofValue, zipEnv, thenQ, blockQ, vfill, inOrder, toPss, toPs, toP, obound, keyOf, cellInts, elemsOf, nilV, extV, pickV, refs, refsL, isCell, cellsOf, strip1, gdV, pdOk, pdPush, pdTick, Back, cond_true, cond_false, if_true, if_false, forall_const, reduceIte, reduceCtorEq, Int.reduceLE, Int.reduceLT, Int.reduceToNat, Int.reduceNeg, Nat.reduceLT, Nat.reduceEqDiff, Nat.reduceAdd, Nat.reduceSub, Nat.reduceMul, Nat.reduceLeDiff]
    (repeat refine W_seq ?_)
    refine W_ret ?_
    try simp only [thenQ, blockQ]
    refine own_ret1 rfl ?_ (by rfl)
    simp only [get_cons, frz, vtup, Nat.reduceEqDiff, if_true, if_false, reduceIte]
    have : i = l.length := by omega
    subst this
    simp [cellsErr, hno, Nat.not_lt.2 h24]
theorem bayOf_v (h : Ha) (c : Pl) (M : Mem) (S : Small h) (c1 : 0 ≤ c.x) (c2 : c.x ≤ 1000) (c3 : 0 ≤ c.y) (c4 : c.y ≤ 1000) : VC Try.prog 73 [hallV h, plV c] M (fun r M' => M' = M ∧ r = vi (bayOf h c)) := by
  have hc := cols_le S
  have hS := S
  obtain ⟨w1, w2, d1, d2, x1, x2, y1, y2⟩ := S
  have hy := div_le (n := c.y) (b := h.bay.y) c3 y1
  have hx := div_le (n := c.x) (b := h.bay.x) c1 x1
  have hm := mul_le hy.1 hc.1 (show c.y / h.bay.y ≤ 1000 by omega) hc.2
  have k1 : 0 ≤ c.y ∧ c.y < 9223372036854775808 := by omega
  have k2 : 0 ≤ c.x ∧ c.x < 9223372036854775808 := by omega
  have k3 : -9223372036854775808 ≤ c.y / h.bay.y * ((h.wide + h.bay.x - 1) / h.bay.x) ∧ c.y / h.bay.y * ((h.wide + h.bay.x - 1) / h.bay.x) < 9223372036854775808 := by omega
  have k4 : -9223372036854775808 ≤ c.y / h.bay.y * ((h.wide + h.bay.x - 1) / h.bay.x) + c.x / h.bay.x ∧ c.y / h.bay.y * ((h.wide + h.bay.x - 1) / h.bay.x) + c.x / h.bay.x < 9223372036854775808 := by omega
  have k5 : -9223372036854775808 ≤ h.wide + h.bay.x ∧ h.wide + h.bay.x < 9223372036854775808 := by omega
  have k6 : -9223372036854775808 ≤ h.wide + h.bay.x - 1 ∧ h.wide + h.bay.x - 1 < 9223372036854775808 := by omega
  have k7 : 0 ≤ h.wide + h.bay.x - 1 ∧ h.wide + h.bay.x - 1 < 9223372036854775808 := by omega
  refine VC_own' T_ok (f := 73) (fn := Try.f73) (by kernel_rfl) rfl Try.ntmps73 (by rfl) (by rfl) ?_
  ((repeat refine W_seq ?_); refine W_region0 T_ok ?_)
  simp (maxSteps := 1000000) only [VL, vappend, ↓Gd_none, ↓Gd_t, ↓Gd_f, ev, ofValue, zipEnv, thenQ, blockQ, vfill, inOrder, toPss, toPs, toP, obound, keyOf, cellInts, elemsOf, nilV, extV, pickV, refs, refsL, isCell, cellsOf, strip1, gdV, pdOk, pdPush, pdTick, Back, cond_true, cond_false, if_true, if_false, forall_const, reduceIte, reduceCtorEq, Int.reduceLE, Int.reduceLT, Int.reduceToNat, Int.reduceNeg, Nat.reduceLT, Nat.reduceEqDiff, Nat.reduceAdd, Nat.reduceSub, Nat.reduceMul, Nat.reduceLeDiff]
  ((repeat refine W_seq ?_); refine W_region0 T_ok ?_)
  simp (maxSteps := 1000000) only [VL, vappend, ↓Gd_none, ↓Gd_t, ↓Gd_f, ev, ofValue, zipEnv, thenQ, blockQ, vfill, inOrder, toPss, toPs, toP, obound, keyOf, cellInts, elemsOf, nilV, extV, pickV, refs, refsL, isCell, cellsOf, strip1, gdV, pdOk, pdPush, pdTick, Back, cond_true, cond_false, if_true, if_false, forall_const, reduceIte, reduceCtorEq, Int.reduceLE, Int.reduceLT, Int.reduceToNat, Int.reduceNeg, Nat.reduceLT, Nat.reduceEqDiff, Nat.reduceAdd, Nat.reduceSub, Nat.reduceMul, Nat.reduceLeDiff, k5, k6, k7, x1]
  (repeat refine W_seq ?_)
  refine W_drawP T_ok [] (by kernel_rfl) (by kernel_rfl) ?_
  generalize hi : mkPlan _ = infs
  cbv at hi
  subst hi
  simp (maxSteps := 1000000) only [VL, vappend, ↓Gd_none, ↓Gd_t, ↓Gd_f, ev, ofValue, zipEnv, thenQ, blockQ, vfill, inOrder, toPss, toPs, toP, obound, keyOf, cellInts, elemsOf, nilV, extV, pickV, refs, refsL, isCell, cellsOf, strip1, gdV, pdOk, pdPush, pdTick, Back, cond_true, cond_false, if_true, if_false, forall_const, reduceIte, reduceCtorEq, Int.reduceLE, Int.reduceLT, Int.reduceToNat, Int.reduceNeg, Nat.reduceLT, Nat.reduceEqDiff, Nat.reduceAdd, Nat.reduceSub, Nat.reduceMul, Nat.reduceLeDiff, k1, k2, k3, k4, x1, y1]
  (repeat refine W_seq ?_)
  refine W_ret ?_
  try simp only [thenQ, blockQ]
  refine own_ret1 rfl ?_ (by rfl)
  simp only [get_cons, frz, vtup, Nat.reduceEqDiff, if_true, if_false, reduceIte]
  rfl
theorem bays_v (h : Ha) (M : Mem) (S : Small h) : VC Try.prog 47 [hallV h] M (fun r M' => M' = M ∧ r = vi (baysOf h)) := by
  have hS := S
  obtain ⟨w1, w2, d1, d2, x1, x2, y1, y2⟩ := S
  have k1 : -9223372036854775808 ≤ h.wide - 1 ∧ h.wide - 1 < 9223372036854775808 := by omega
  have k2 : -9223372036854775808 ≤ h.deep - 1 ∧ h.deep - 1 < 9223372036854775808 := by omega
  have hc := cols_le hS
  have hd := div_le (n := h.deep - 1) (b := h.bay.y) (by omega) y1
  have he := div_le (n := h.wide - 1) (b := h.bay.x) (by omega) x1
  have hm := mul_le hd.1 hc.1 (show (h.deep - 1) / h.bay.y ≤ 1000 by omega) hc.2
  have k3 : -9223372036854775808 ≤ bayOf h ⟨h.wide - 1, h.deep - 1⟩ + 1 ∧ bayOf h ⟨h.wide - 1, h.deep - 1⟩ + 1 < 9223372036854775808 := by
    unfold bayOf colsOf
    simp only
    omega
  refine VC_own' T_ok (f := 47) (fn := Try.f47) (by kernel_rfl) rfl Try.ntmps47 (by rfl) (by rfl) ?_
  ((repeat refine W_seq ?_); refine W_region0 T_ok ?_)
  simp (maxSteps := 1000000) only [VL, vappend, ↓Gd_none, ↓Gd_t, ↓Gd_f, ev, ofValue, zipEnv, thenQ, blockQ, vfill, inOrder, toPss, toPs, toP, obound, keyOf, cellInts, elemsOf, nilV, extV, pickV, refs, refsL, isCell, cellsOf, strip1, gdV, pdOk, pdPush, pdTick, Back, cond_true, cond_false, if_true, if_false, forall_const, reduceIte, reduceCtorEq, Int.reduceLE, Int.reduceLT, Int.reduceToNat, Int.reduceNeg, Nat.reduceLT, Nat.reduceEqDiff, Nat.reduceAdd, Nat.reduceSub, Nat.reduceMul, Nat.reduceLeDiff]
  ((repeat refine W_seq ?_); refine W_region0 T_ok ?_)
  simp (maxSteps := 1000000) only [VL, vappend, ↓Gd_none, ↓Gd_t, ↓Gd_f, ev, ofValue, zipEnv, thenQ, blockQ, vfill, inOrder, toPss, toPs, toP, obound, keyOf, cellInts, elemsOf, nilV, extV, pickV, refs, refsL, isCell, cellsOf, strip1, gdV, pdOk, pdPush, pdTick, Back, cond_true, cond_false, if_true, if_false, forall_const, reduceIte, reduceCtorEq, Int.reduceLE, Int.reduceLT, Int.reduceToNat, Int.reduceNeg, Nat.reduceLT, Nat.reduceEqDiff, Nat.reduceAdd, Nat.reduceSub, Nat.reduceMul, Nat.reduceLeDiff, k1, k2]
  apply call_eq (f := 73) (fn := Try.f73) (by kernel_rfl) (by rfl)
  · exact bayOf_v h ⟨h.wide - 1, h.deep - 1⟩ _ hS (by first | omega | (simp only; omega)) (by first | omega | (simp only; omega)) (by first | omega | (simp only; omega)) (by first | omega | (simp only; omega))
  simp (maxSteps := 1000000) only [VL, vappend, ↓Gd_none, ↓Gd_t, ↓Gd_f, ev, ofValue, zipEnv, thenQ, blockQ, vfill, inOrder, toPss, toPs, toP, obound, keyOf, cellInts, elemsOf, nilV, extV, pickV, refs, refsL, isCell, cellsOf, strip1, gdV, pdOk, pdPush, pdTick, Back, cond_true, cond_false, if_true, if_false, forall_const, reduceIte, reduceCtorEq, Int.reduceLE, Int.reduceLT, Int.reduceToNat, Int.reduceNeg, Nat.reduceLT, Nat.reduceEqDiff, Nat.reduceAdd, Nat.reduceSub, Nat.reduceMul, Nat.reduceLeDiff, k3]
  (repeat refine W_seq ?_)
  refine W_ret ?_
  try simp only [thenQ, blockQ]
  refine own_ret1 rfl ?_ (by rfl)
  simp only [get_cons, frz, vtup, Nat.reduceEqDiff, if_true, if_false, reduceIte]
  rw [bays_eq x1 y1]
end Go.Proofs.Ytijcmgfblpokhaa.Vm
