/- A part of the proofs about the chapter of the vaults; it states no condition of its own. -/
import Derived.Test.YtijcmgfblpokhaaB38
import Derived.Test.YtijcmgfblpokhaaB40
set_option linter.unusedVariables false
set_option linter.unusedSimpArgs false
/- The program's check of layouts, on values, part 3. (Vm) -/
namespace Go.Proofs.Ytijcmgfblpokhaa.Vm
open Go Go.Proofs
structure LaySt where
  i : Nat
  x : VV
  a : VV
  b : VV
  c : VV
  junk : List VObj
structure OverSt where
  i : Nat
  es : List (List Int × VV)
  junk : List VObj
theorem checklayout_vm (h : Ha) (l : List Pu) (M : Mem) (V : VH h) (hl : l.length ≤ 1000000) : VC Try.prog 68 [hallV h, pusV l] M (fun r M' => M' = M ∧ r = vi (layErr h l)) := by
  refine VC_own' T_ok (f := 68) (fn := Try.f68) (by kernel_rfl) rfl Try.ntmps68 (by rfl) (by rfl) ?_
  ((repeat refine W_seq ?_); refine W_region0 T_ok ?_)
  simp (maxSteps := 1000000) only [VL, VM, ↓Gd_none, ↓Gd_t, ↓Gd_f, reduceIte, reduceCtorEq, Int.reduceLE, Int.reduceLT, Int.reduceToNat, Int.reduceNeg, Nat.reduceLT, Nat.reduceEqDiff, Nat.reduceAdd, Nat.reduceSub, Nat.reduceMul, Nat.reduceLeDiff]
  ((repeat refine W_seq ?_); refine W_region0 T_ok ?_)
  rcases Nat.lt_or_ge 24 l.length with h24 | h24
  · have k0 : ((24 : Int) < (l.length : Int)) = True := eq_true (by omega)
    simp (maxSteps := 1000000) only [VL, VM, ↓Gd_none, ↓Gd_t, ↓Gd_f, reduceIte, reduceCtorEq, Int.reduceLE, Int.reduceLT, Int.reduceToNat, Int.reduceNeg, Nat.reduceLT, Nat.reduceEqDiff, Nat.reduceAdd, Nat.reduceSub, Nat.reduceMul, Nat.reduceLeDiff, k0]
    ((repeat refine W_seq ?_); refine W_cond (b := true) (by first | rfl | simp only [ev, get_cons, Nat.reduceEqDiff, if_true, if_false, reduceIte]) (fun _ => ?_) (fun h => by cases h))
    ((repeat refine W_seq ?_); refine W_region0 T_ok ?_)
    simp (maxSteps := 1000000) only [VL, VM, ↓Gd_none, ↓Gd_t, ↓Gd_f, reduceIte, reduceCtorEq, Int.reduceLE, Int.reduceLT, Int.reduceToNat, Int.reduceNeg, Nat.reduceLT, Nat.reduceEqDiff, Nat.reduceAdd, Nat.reduceSub, Nat.reduceMul, Nat.reduceLeDiff]
    (repeat refine W_seq ?_)
    refine W_ret ?_
    try simp only [thenQ, blockQ]
    refine own_ret1 rfl ?_ (by rfl)
    simp only [get_cons, frz, vtup, Nat.reduceEqDiff, if_true, if_false, reduceIte]
    simp [layErr, h24]
  have k0 : ((24 : Int) < (l.length : Int)) = False := eq_false (by omega)
  simp (maxSteps := 1000000) only [VL, VM, ↓Gd_none, ↓Gd_t, ↓Gd_f, reduceIte, reduceCtorEq, Int.reduceLE, Int.reduceLT, Int.reduceToNat, Int.reduceNeg, Nat.reduceLT, Nat.reduceEqDiff, Nat.reduceAdd, Nat.reduceSub, Nat.reduceMul, Nat.reduceLeDiff, k0]
  ((repeat refine W_seq ?_); refine W_cond (b := false) (by first | rfl | simp only [ev, get_cons, Nat.reduceEqDiff, if_true, if_false, reduceIte]) (fun h => by cases h) (fun _ => ?_))
  ((repeat refine W_seq ?_); refine W_skip ?_)
  simp (maxSteps := 1000000) only [VL, VM, ↓Gd_none, ↓Gd_t, ↓Gd_f, reduceIte, reduceCtorEq, Int.reduceLE, Int.reduceLT, Int.reduceToNat, Int.reduceNeg, Nat.reduceLT, Nat.reduceEqDiff, Nat.reduceAdd, Nat.reduceSub, Nat.reduceMul, Nat.reduceLeDiff]
  ((repeat refine W_seq ?_); refine W_region0 T_ok ?_)
  simp (maxSteps := 1000000) only [VL, VM, ↓Gd_none, ↓Gd_t, ↓Gd_f, reduceIte, reduceCtorEq, Int.reduceLE, Int.reduceLT, Int.reduceToNat, Int.reduceNeg, Nat.reduceLT, Nat.reduceEqDiff, Nat.reduceAdd, Nat.reduceSub, Nat.reduceMul, Nat.reduceLeDiff]
  ((repeat refine W_seq ?_); refine W_region0 T_ok ?_)
  simp (maxSteps := 1000000) only [VL, VM, ↓Gd_none, ↓Gd_t, ↓Gd_f, reduceIte, reduceCtorEq, Int.reduceLE, Int.reduceLT, Int.reduceToNat, Int.reduceNeg, Nat.reduceLT, Nat.reduceEqDiff, Nat.reduceAdd, Nat.reduceSub, Nat.reduceMul, Nat.reduceLeDiff]
  ((repeat refine W_seq ?_); refine W_region0 T_ok ?_)
  simp (maxSteps := 1000000) only [VL, VM, ↓Gd_none, ↓Gd_t, ↓Gd_f, reduceIte, reduceCtorEq, Int.reduceLE, Int.reduceLT, Int.reduceToNat, Int.reduceNeg, Nat.reduceLT, Nat.reduceEqDiff, Nat.reduceAdd, Nat.reduceSub, Nat.reduceMul, Nat.reduceLeDiff]
  ((repeat refine W_seq ?_); refine W_block ?_; (repeat refine W_seq ?_)); refine W_loopS (fun s : LaySt => [(0, hallV h), (1, pusV l), (2, VV.ptr M.H.length 0), (5, VV.ptr (M.H.length + 1) 0), (6, .sv 1 (rulesL (M.H.length + 1))), (34, pusV l), (35, vi l.length), (36, vi s.i)]) (fun s => ⟨M.H ++ (VObj.obj (hallC h) :: VObj.obj [vi h.wide, vi h.deep, plsV h.water, plsV h.shut, vi h.bay.x, vi h.bay.y, intsV h.bears, kisV h.kinds, s.x, s.a, s.b, s.c] :: s.junk), M.lg⟩) (fun s => l.length - s.i) (fun s => s.i ≤ l.length ∧ firstErr (putErrAt h l) s.i = 0) ⟨0, _, _, _, _, []⟩ ⟨Nat.zero_le _, rfl⟩ ⟨rfl, rfl, rfl, rfl, rfl, rfl, rfl, rfl, trivial⟩ rfl ?_
  · rintro ⟨i, x, a, b, c, junk⟩ ⟨hi, hno⟩
    simp only at hi hno
    have k1 : -9223372036854775808 ≤ (i : Int) + 1 ∧ (i : Int) + 1 < 9223372036854775808 := by omega
    ((repeat refine W_seq ?_); refine W_region0 T_ok ?_)
    rcases Nat.lt_or_ge i l.length with hlt | hge
    · have k2 : ((i : Int) < (l.length : Int)) = True := eq_true (by omega)
      have hx : l[i]? = some l[i] := List.getElem?_eq_getElem hlt
      have hx' := map_at (f := puP) hx
      generalize hc : l[i] = p at hx hx'
      have hpe : putErrAt h l i = putErr h (l.take i) p := by simp [putErrAt, hx]
      simp (maxSteps := 1000000) only [VL, VM, ↓Gd_none, ↓Gd_t, ↓Gd_f, reduceIte, reduceCtorEq, Int.reduceLE, Int.reduceLT, Int.reduceToNat, Int.reduceNeg, Nat.reduceLT, Nat.reduceEqDiff, Nat.reduceAdd, Nat.reduceSub, Nat.reduceMul, Nat.reduceLeDiff, k2]
      ((repeat refine W_seq ?_); refine W_cond (b := true) (by first | rfl | simp only [ev, get_cons, Nat.reduceEqDiff, if_true, if_false, reduceIte]) (fun _ => ?_) (fun h => by cases h))
      ((repeat refine W_seq ?_); refine W_skip ?_)
      simp (maxSteps := 1000000) only [VL, VM, ↓Gd_none, ↓Gd_t, ↓Gd_f, reduceIte, reduceCtorEq, Int.reduceLE, Int.reduceLT, Int.reduceToNat, Int.reduceNeg, Nat.reduceLT, Nat.reduceEqDiff, Nat.reduceAdd, Nat.reduceSub, Nat.reduceMul, Nat.reduceLeDiff]
      ((repeat refine W_seq ?_); refine W_block ?_)
      ((repeat refine W_seq ?_); refine W_region0 T_ok ?_)
      simp (maxSteps := 1000000) only [VL, VM, ↓Gd_none, ↓Gd_t, ↓Gd_f, reduceIte, reduceCtorEq, Int.reduceLE, Int.reduceLT, Int.reduceToNat, Int.reduceNeg, Nat.reduceLT, Nat.reduceEqDiff, Nat.reduceAdd, Nat.reduceSub, Nat.reduceMul, Nat.reduceLeDiff, hx']
      (repeat refine W_seq ?_)
      refine W_drawP T_ok [] (by kernel_rfl) (by kernel_rfl) ?_
      generalize hi : mkPlan _ = infs
      cbv at hi
      subst hi
      simp (maxSteps := 1000000) only [VL, VM, ↓Gd_none, ↓Gd_t, ↓Gd_f, reduceIte, reduceCtorEq, Int.reduceLE, Int.reduceLT, Int.reduceToNat, Int.reduceNeg, Nat.reduceLT, Nat.reduceEqDiff, Nat.reduceAdd, Nat.reduceSub, Nat.reduceMul, Nat.reduceLeDiff, hi]
      ((repeat refine W_seq ?_); refine W_region0 T_ok ?_)
      simp (maxSteps := 1000000) only [VL, VM, ↓Gd_none, ↓Gd_t, ↓Gd_f, reduceIte, reduceCtorEq, Int.reduceLE, Int.reduceLT, Int.reduceToNat, Int.reduceNeg, Nat.reduceLT, Nat.reduceEqDiff, Nat.reduceAdd, Nat.reduceSub, Nat.reduceMul, Nat.reduceLeDiff]
      ((repeat refine W_seq ?_); refine W_block ?_; (repeat refine W_seq ?_)); refine W_loopS (fun j : Nat => [(0, hallV h), (1, pusV l), (2, VV.ptr M.H.length 0), (5, VV.ptr (M.H.length + 1) 0), (6, .sv 1 (rulesL (M.H.length + 1))), (34, pusV l), (35, vi l.length), (36, vi i), (51, .sv 1 (rulesL (M.H.length + 1))), (52, vi (rulesL (M.H.length + 1)).length), (53, vi j)]) (fun _ => ⟨M.H ++ (VObj.obj (hallC h) :: VObj.obj (layC h (l.take i) p) :: (junk ++ [VObj.obj [vi p.pl.x, vi p.pl.y, vi p.kind]])), M.lg⟩) (fun j => 6 - j) (fun j => j ≤ 6 ∧ ∀ r, r < j → ruleErr h (l.take i) p r = 0) 0 ⟨by omega, fun r hr => absurd hr (by omega)⟩ ⟨rfl, rfl, rfl, rfl, rfl, rfl, rfl, rfl, rfl, rfl, rfl, trivial⟩ rfl ?_
      rintro j ⟨hj, hr⟩
      have j1 : -9223372036854775808 ≤ (j : Int) + 1 ∧ (j : Int) + 1 < 9223372036854775808 := by omega
      have j0 : (rulesL (M.H.length + 1)).length = 6 := rfl
      ((repeat refine W_seq ?_); refine W_region0 T_ok ?_)
      rcases Nat.lt_or_ge j 6 with hj6 | hj6
      · have j2 : ((j : Int) < ((rulesL (M.H.length + 1)).length : Int)) = True := eq_true (by rw [j0]; omega)
        have hy := rulesL_at (M.H.length + 1) j hj6
        simp (maxSteps := 1000000) only [VL, VM, ↓Gd_none, ↓Gd_t, ↓Gd_f, reduceIte, reduceCtorEq, Int.reduceLE, Int.reduceLT, Int.reduceToNat, Int.reduceNeg, Nat.reduceLT, Nat.reduceEqDiff, Nat.reduceAdd, Nat.reduceSub, Nat.reduceMul, Nat.reduceLeDiff, j2]
        ((repeat refine W_seq ?_); refine W_cond (b := true) (by first | rfl | simp only [ev, get_cons, Nat.reduceEqDiff, if_true, if_false, reduceIte]) (fun _ => ?_) (fun h => by cases h))
        ((repeat refine W_seq ?_); refine W_skip ?_)
        simp (maxSteps := 1000000) only [VL, VM, ↓Gd_none, ↓Gd_t, ↓Gd_f, reduceIte, reduceCtorEq, Int.reduceLE, Int.reduceLT, Int.reduceToNat, Int.reduceNeg, Nat.reduceLT, Nat.reduceEqDiff, Nat.reduceAdd, Nat.reduceSub, Nat.reduceMul, Nat.reduceLeDiff]
        ((repeat refine W_seq ?_); refine W_block ?_)
        ((repeat refine W_seq ?_); refine W_region0 T_ok ?_)
        simp (maxSteps := 1000000) only [VL, VM, ↓Gd_none, ↓Gd_t, ↓Gd_f, reduceIte, reduceCtorEq, Int.reduceLE, Int.reduceLT, Int.reduceToNat, Int.reduceNeg, Nat.reduceLT, Nat.reduceEqDiff, Nat.reduceAdd, Nat.reduceSub, Nat.reduceMul, Nat.reduceLeDiff, hy]
        ((repeat refine W_seq ?_); refine W_region0 T_ok ?_)
        simp (maxSteps := 1000000) only [VL, VM, ↓Gd_none, ↓Gd_t, ↓Gd_f, reduceIte, reduceCtorEq, Int.reduceLE, Int.reduceLT, Int.reduceToNat, Int.reduceNeg, Nat.reduceLT, Nat.reduceEqDiff, Nat.reduceAdd, Nat.reduceSub, Nat.reduceMul, Nat.reduceLeDiff]
        refine (rule_call h (l.take i) p (M.H.length + 1) _ V (good_takes hno hi) (by rw [List.length_take]; omega) (by rw [hget]; rfl) j hj6 hr).mono ?_
        rintro _ _ ⟨rfl, rfl⟩
        simp (maxSteps := 1000000) only [VL, VM, ↓Gd_none, ↓Gd_t, ↓Gd_f, reduceIte, reduceCtorEq, Int.reduceLE, Int.reduceLT, Int.reduceToNat, Int.reduceNeg, Nat.reduceLT, Nat.reduceEqDiff, Nat.reduceAdd, Nat.reduceSub, Nat.reduceMul, Nat.reduceLeDiff]
        ((repeat refine W_seq ?_); refine W_region0 T_ok ?_)
        by_cases hz : ruleErr h (l.take i) p j = 0
        · simp (maxSteps := 1000000) only [VL, VM, ↓Gd_none, ↓Gd_t, ↓Gd_f, reduceIte, reduceCtorEq, Int.reduceLE, Int.reduceLT, Int.reduceToNat, Int.reduceNeg, Nat.reduceLT, Nat.reduceEqDiff, Nat.reduceAdd, Nat.reduceSub, Nat.reduceMul, Nat.reduceLeDiff, hz]
          ((repeat refine W_seq ?_); refine W_cond (b := false) (by first | rfl | simp only [ev, get_cons, Nat.reduceEqDiff, if_true, if_false, reduceIte]) (fun h => by cases h) (fun _ => ?_))
          ((repeat refine W_seq ?_); refine W_skip ?_)
          simp (maxSteps := 1000000) only [VL, VM, ↓Gd_none, ↓Gd_t, ↓Gd_f, reduceIte, reduceCtorEq, Int.reduceLE, Int.reduceLT, Int.reduceToNat, Int.reduceNeg, Nat.reduceLT, Nat.reduceEqDiff, Nat.reduceAdd, Nat.reduceSub, Nat.reduceMul, Nat.reduceLeDiff]
          ((repeat refine W_seq ?_); refine W_region0 T_ok ?_)
          simp (maxSteps := 1000000) only [VL, VM, ↓Gd_none, ↓Gd_t, ↓Gd_f, reduceIte, reduceCtorEq, Int.reduceLE, Int.reduceLT, Int.reduceToNat, Int.reduceNeg, Nat.reduceLT, Nat.reduceEqDiff, Nat.reduceAdd, Nat.reduceSub, Nat.reduceMul, Nat.reduceLeDiff, j1]
          refine LoopK.mk (j + 1) (by omega) ⟨by omega, fun r hr' => ?_⟩ ⟨rfl, rfl, rfl, rfl, rfl, rfl, rfl, rfl, rfl, rfl, rfl, trivial⟩ rfl
          rcases Nat.lt_or_ge r j with h' | h'
          · exact hr r h'
          · obtain rfl : r = j := by omega
            exact hz
        · simp (maxSteps := 1000000) only [VL, VM, ↓Gd_none, ↓Gd_t, ↓Gd_f, reduceIte, reduceCtorEq, Int.reduceLE, Int.reduceLT, Int.reduceToNat, Int.reduceNeg, Nat.reduceLT, Nat.reduceEqDiff, Nat.reduceAdd, Nat.reduceSub, Nat.reduceMul, Nat.reduceLeDiff, hz]
          ((repeat refine W_seq ?_); refine W_cond (b := true) (by first | rfl | simp only [ev, get_cons, Nat.reduceEqDiff, if_true, if_false, reduceIte]) (fun _ => ?_) (fun h => by cases h))
          ((repeat refine W_seq ?_); refine W_region0 T_ok ?_)
          simp (maxSteps := 1000000) only [VL, VM, ↓Gd_none, ↓Gd_t, ↓Gd_f, reduceIte, reduceCtorEq, Int.reduceLE, Int.reduceLT, Int.reduceToNat, Int.reduceNeg, Nat.reduceLT, Nat.reduceEqDiff, Nat.reduceAdd, Nat.reduceSub, Nat.reduceMul, Nat.reduceLeDiff]
          (repeat refine W_seq ?_)
          refine W_ret ?_
          try simp only [thenQ, blockQ]
          refine own_ret1 rfl ?_ (by rfl)
          simp only [get_cons, frz, vtup, Nat.reduceEqDiff, if_true, if_false, reduceIte]
          have hh := rule_hit hj6 hr hz
          have := firstErr_hit hno (by rw [hpe, hh]; exact hz) hlt
          rw [layErr, if_neg (by omega), if_pos (by rw [this, hpe, hh]; exact hz), this, hpe, hh]
      · have j2 : ((j : Int) < ((rulesL (M.H.length + 1)).length : Int)) = False := eq_false (by rw [j0]; omega)
        obtain rfl : j = 6 := by omega
        simp (maxSteps := 1000000) only [VL, VM, ↓Gd_none, ↓Gd_t, ↓Gd_f, reduceIte, reduceCtorEq, Int.reduceLE, Int.reduceLT, Int.reduceToNat, Int.reduceNeg, Nat.reduceLT, Nat.reduceEqDiff, Nat.reduceAdd, Nat.reduceSub, Nat.reduceMul, Nat.reduceLeDiff, j2]
        ((repeat refine W_seq ?_); refine W_cond (b := false) (by first | rfl | simp only [ev, get_cons, Nat.reduceEqDiff, if_true, if_false, reduceIte]) (fun h => by cases h) (fun _ => ?_))
        ((repeat refine W_seq ?_); refine W_exit ?_)
        simp (maxSteps := 1000000) only [VL, VM, ↓Gd_none, ↓Gd_t, ↓Gd_f, reduceIte, reduceCtorEq, Int.reduceLE, Int.reduceLT, Int.reduceToNat, Int.reduceNeg, Nat.reduceLT, Nat.reduceEqDiff, Nat.reduceAdd, Nat.reduceSub, Nat.reduceMul, Nat.reduceLeDiff]
        ((repeat refine W_seq ?_); refine W_region0 T_ok ?_)
        simp (maxSteps := 1000000) only [VL, VM, ↓Gd_none, ↓Gd_t, ↓Gd_f, reduceIte, reduceCtorEq, Int.reduceLE, Int.reduceLT, Int.reduceToNat, Int.reduceNeg, Nat.reduceLT, Nat.reduceEqDiff, Nat.reduceAdd, Nat.reduceSub, Nat.reduceMul, Nat.reduceLeDiff, k1]
        refine LoopK.mk ⟨i + 1, pusV (l.take i), vi p.pl.x, vi p.pl.y, vi p.kind, junk ++ [VObj.obj [vi p.pl.x, vi p.pl.y, vi p.kind]]⟩ (by simp only; omega) ⟨by simp only; omega, firstErr_step hno (by rw [hpe]; exact rule_ok hr)⟩ ⟨rfl, rfl, rfl, rfl, rfl, rfl, rfl, rfl, trivial⟩ rfl
    · have k2 : ((i : Int) < (l.length : Int)) = False := eq_false (by omega)
      simp (maxSteps := 1000000) only [VL, VM, ↓Gd_none, ↓Gd_t, ↓Gd_f, reduceIte, reduceCtorEq, Int.reduceLE, Int.reduceLT, Int.reduceToNat, Int.reduceNeg, Nat.reduceLT, Nat.reduceEqDiff, Nat.reduceAdd, Nat.reduceSub, Nat.reduceMul, Nat.reduceLeDiff, k2]
      ((repeat refine W_seq ?_); refine W_cond (b := false) (by first | rfl | simp only [ev, get_cons, Nat.reduceEqDiff, if_true, if_false, reduceIte]) (fun h => by cases h) (fun _ => ?_))
      ((repeat refine W_seq ?_); refine W_exit ?_)
      simp (maxSteps := 1000000) only [VL, VM, ↓Gd_none, ↓Gd_t, ↓Gd_f, reduceIte, reduceCtorEq, Int.reduceLE, Int.reduceLT, Int.reduceToNat, Int.reduceNeg, Nat.reduceLT, Nat.reduceEqDiff, Nat.reduceAdd, Nat.reduceSub, Nat.reduceMul, Nat.reduceLeDiff]
      obtain rfl : i = l.length := by omega
      have hgood := good_takes hno hi
      rw [List.take_length] at hgood
      have e1 : layErr h l = firstErr (overAt h l) h.kinds.length := by
        rw [layErr, if_neg (by omega), hno]; rfl
      obtain ⟨H0, hH0⟩ : ∃ H0, M.H ++ (VObj.obj (hallC h) :: VObj.obj [vi h.wide, vi h.deep, plsV h.water, plsV h.shut, vi h.bay.x, vi h.bay.y, intsV h.bears, kisV h.kinds, x, a, b, c] :: junk) = H0 := ⟨_, rfl⟩
      have g0 : ∀ L, (H0 ++ L)[M.H.length]? = some (VObj.obj (hallC h)) := fun L => by rw [← hH0]; exact app_get (hget0 _ _) L
      have g00 : H0[M.H.length]? = some (VObj.obj (hallC h)) := by rw [← hH0]; exact hget0 _ _
      rw [hH0]
      ((repeat refine W_seq ?_); refine W_region0 T_ok ?_)
      simp (maxSteps := 1000000) only [VL, VM, ↓Gd_none, ↓Gd_t, ↓Gd_f, reduceIte, reduceCtorEq, Int.reduceLE, Int.reduceLT, Int.reduceToNat, Int.reduceNeg, Nat.reduceLT, Nat.reduceEqDiff, Nat.reduceAdd, Nat.reduceSub, Nat.reduceMul, Nat.reduceLeDiff]
      ((repeat refine W_seq ?_); refine W_region0 T_ok ?_)
      simp (maxSteps := 1000000) only [VL, VM, ↓Gd_none, ↓Gd_t, ↓Gd_f, reduceIte, reduceCtorEq, Int.reduceLE, Int.reduceLT, Int.reduceToNat, Int.reduceNeg, Nat.reduceLT, Nat.reduceEqDiff, Nat.reduceAdd, Nat.reduceSub, Nat.reduceMul, Nat.reduceLeDiff]
      ((repeat refine W_seq ?_); refine W_block ?_; (repeat refine W_seq ?_)); refine W_loopS (fun s : OverSt => [(0, hallV h), (1, pusV l), (2, VV.ptr M.H.length 0), (12, VV.mp H0.length), (65, pusV l), (66, vi l.length), (67, vi s.i)]) (fun s => ⟨H0 ++ (VObj.mpo (.int .i64) s.es :: s.junk), M.lg⟩) (fun s => l.length - s.i) (fun s => s.i ≤ l.length ∧ Cnt s.es (l.take s.i) ∧ ∀ q (y : Pu), q < s.i → l[q]? = some y → (cnt (l.take (q + 1)) y.kind : Int) ≤ (kAt h y.kind).most) ⟨0, [], []⟩ ⟨Nat.zero_le _, Cnt.nil, fun q y hq => absurd hq (Nat.not_lt_zero _)⟩ ⟨rfl, rfl, rfl, rfl, rfl, rfl, rfl, trivial⟩ rfl ?_
      rintro ⟨i, es, junk⟩ ⟨hi, hes, hov⟩
      simp only at hi hes hov
      have k1 : -9223372036854775808 ≤ (i : Int) + 1 ∧ (i : Int) + 1 < 9223372036854775808 := by omega
      ((repeat refine W_seq ?_); refine W_region0 T_ok ?_)
      rcases Nat.lt_or_ge i l.length with hlt | hge
      · have k2 : ((i : Int) < (l.length : Int)) = True := eq_true (by omega)
        have hx : l[i]? = some l[i] := List.getElem?_eq_getElem hlt
        have hx' := map_at (f := puP) hx
        have hmem := List.getElem_mem hlt
        generalize hc : l[i] = p at hx hx' hmem
        have gp := hgood p hmem
        obtain ⟨p1, p2, p3, p4, p5, p6⟩ := gp.bounds V
        have kp := map_at (f := kiP) (kAt_some p5 p6)
        simp (maxSteps := 1000000) only [VL, VM, ↓Gd_none, ↓Gd_t, ↓Gd_f, reduceIte, reduceCtorEq, Int.reduceLE, Int.reduceLT, Int.reduceToNat, Int.reduceNeg, Nat.reduceLT, Nat.reduceEqDiff, Nat.reduceAdd, Nat.reduceSub, Nat.reduceMul, Nat.reduceLeDiff, k2]
        ((repeat refine W_seq ?_); refine W_cond (b := true) (by first | rfl | simp only [ev, get_cons, Nat.reduceEqDiff, if_true, if_false, reduceIte]) (fun _ => ?_) (fun h => by cases h))
        ((repeat refine W_seq ?_); refine W_skip ?_)
        simp (maxSteps := 1000000) only [VL, VM, ↓Gd_none, ↓Gd_t, ↓Gd_f, reduceIte, reduceCtorEq, Int.reduceLE, Int.reduceLT, Int.reduceToNat, Int.reduceNeg, Nat.reduceLT, Nat.reduceEqDiff, Nat.reduceAdd, Nat.reduceSub, Nat.reduceMul, Nat.reduceLeDiff]
        ((repeat refine W_seq ?_); refine W_block ?_)
        ((repeat refine W_seq ?_); refine W_region0 T_ok ?_)
        simp (maxSteps := 1000000) only [VL, VM, ↓Gd_none, ↓Gd_t, ↓Gd_f, reduceIte, reduceCtorEq, Int.reduceLE, Int.reduceLT, Int.reduceToNat, Int.reduceNeg, Nat.reduceLT, Nat.reduceEqDiff, Nat.reduceAdd, Nat.reduceSub, Nat.reduceMul, Nat.reduceLeDiff, hx']
        have q1 : -9223372036854775808 ≤ (cnt (l.take i) p.kind : Int) + 1 ∧ (cnt (l.take i) p.kind : Int) + 1 < 9223372036854775808 := by
          have := cnt_le (l.take i) p.kind
          rw [List.length_take] at this
          omega
        have q2 : assoc [p.kind] (assocSet [p.kind] (vi (cnt (l.take i) p.kind + 1)) es) = some (vi (cnt (l.take i) p.kind + 1)) := by rw [assoc_set, if_pos rfl]
        have hct : cnt (l.take (i + 1)) p.kind = cnt (l.take i) p.kind + 1 := by
          rw [List.take_add_one, hx, Option.toList, cnt_add, if_pos rfl]
        have hes' := hes.add p
        rw [show l.take i ++ [p] = l.take (i + 1) by rw [List.take_add_one, hx]; rfl] at hes'
        rcases hes p.kind with ⟨z1, z2⟩ | z2
        all_goals
          first
          | (have z0 : (0 : Int) + 1 = (cnt (l.take i) p.kind : Int) + 1 := by rw [z1]; rfl
             ((repeat refine W_seq ?_); refine W_region0 T_ok ?_)
             simp (maxSteps := 1000000) only [VL, VM, ↓Gd_none, ↓Gd_t, ↓Gd_f, reduceIte, reduceCtorEq, Int.reduceLE, Int.reduceLT, Int.reduceToNat, Int.reduceNeg, Nat.reduceLT, Nat.reduceEqDiff, Nat.reduceAdd, Nat.reduceSub, Nat.reduceMul, Nat.reduceLeDiff, z2, z0, q1])
          | (((repeat refine W_seq ?_); refine W_region0 T_ok ?_)
             simp (maxSteps := 1000000) only [VL, VM, ↓Gd_none, ↓Gd_t, ↓Gd_f, reduceIte, reduceCtorEq, Int.reduceLE, Int.reduceLT, Int.reduceToNat, Int.reduceNeg, Nat.reduceLT, Nat.reduceEqDiff, Nat.reduceAdd, Nat.reduceSub, Nat.reduceMul, Nat.reduceLeDiff, z2, q1])
          (repeat refine W_seq ?_)
          refine W_drawP T_ok [] (by kernel_rfl) (by kernel_rfl) ?_
          generalize hi : mkPlan _ = infs
          cbv at hi
          subst hi
          by_cases hv : (kAt h p.kind).most < (cnt (l.take i) p.kind : Int) + 1
          · simp (maxSteps := 1000000) only [VL, VM, ↓Gd_none, ↓Gd_t, ↓Gd_f, reduceIte, reduceCtorEq, Int.reduceLE, Int.reduceLT, Int.reduceToNat, Int.reduceNeg, Nat.reduceLT, Nat.reduceEqDiff, Nat.reduceAdd, Nat.reduceSub, Nat.reduceMul, Nat.reduceLeDiff, g0, q2, p5, kp, hv]
            ((repeat refine W_seq ?_); refine W_cond (b := true) (by first | rfl | simp only [ev, get_cons, Nat.reduceEqDiff, if_true, if_false, reduceIte]) (fun _ => ?_) (fun h => by cases h))
            ((repeat refine W_seq ?_); refine W_region0 T_ok ?_)
            simp (maxSteps := 1000000) only [VL, VM, ↓Gd_none, ↓Gd_t, ↓Gd_f, reduceIte, reduceCtorEq, Int.reduceLE, Int.reduceLT, Int.reduceToNat, Int.reduceNeg, Nat.reduceLT, Nat.reduceEqDiff, Nat.reduceAdd, Nat.reduceSub, Nat.reduceMul, Nat.reduceLeDiff]
            rw [← hH0, List.append_assoc]
            (repeat refine W_seq ?_)
            refine W_ret ?_
            try simp only [thenQ, blockQ]
            refine own_ret1 rfl ?_ (by rfl)
            simp only [get_cons, frz, vtup, Nat.reduceEqDiff, if_true, if_false, reduceIte]
            rw [e1, over_hit hx gp (by rw [hct]; omega)]
          · simp (maxSteps := 1000000) only [VL, VM, ↓Gd_none, ↓Gd_t, ↓Gd_f, reduceIte, reduceCtorEq, Int.reduceLE, Int.reduceLT, Int.reduceToNat, Int.reduceNeg, Nat.reduceLT, Nat.reduceEqDiff, Nat.reduceAdd, Nat.reduceSub, Nat.reduceMul, Nat.reduceLeDiff, g0, q2, p5, kp, hv]
            ((repeat refine W_seq ?_); refine W_cond (b := false) (by first | rfl | simp only [ev, get_cons, Nat.reduceEqDiff, if_true, if_false, reduceIte]) (fun h => by cases h) (fun _ => ?_))
            ((repeat refine W_seq ?_); refine W_skip ?_)
            simp (maxSteps := 1000000) only [VL, VM, ↓Gd_none, ↓Gd_t, ↓Gd_f, reduceIte, reduceCtorEq, Int.reduceLE, Int.reduceLT, Int.reduceToNat, Int.reduceNeg, Nat.reduceLT, Nat.reduceEqDiff, Nat.reduceAdd, Nat.reduceSub, Nat.reduceMul, Nat.reduceLeDiff]
            ((repeat refine W_seq ?_); refine W_region0 T_ok ?_)
            simp (maxSteps := 1000000) only [VL, VM, ↓Gd_none, ↓Gd_t, ↓Gd_f, reduceIte, reduceCtorEq, Int.reduceLE, Int.reduceLT, Int.reduceToNat, Int.reduceNeg, Nat.reduceLT, Nat.reduceEqDiff, Nat.reduceAdd, Nat.reduceSub, Nat.reduceMul, Nat.reduceLeDiff, k1]
            refine LoopK.mk ⟨i + 1, assocSet [p.kind] (vi (cnt (l.take i) p.kind + 1)) es, junk ++ [VObj.obj [vi p.pl.x, vi p.pl.y, vi p.kind]]⟩ (by simp only; omega) ⟨by simp only; omega, hes', fun q y hq hy => ?_⟩ ⟨rfl, rfl, rfl, rfl, rfl, rfl, rfl, trivial⟩ rfl
            rcases Nat.lt_or_ge q i with h' | h'
            · exact hov q y h' hy
            · obtain rfl : q = i := by simp only at hq; omega
              rw [hx] at hy
              cases hy
              rw [hct]
              exact Int.not_lt.1 hv
      · have k2 : ((i : Int) < (l.length : Int)) = False := eq_false (by omega)
        simp (maxSteps := 1000000) only [VL, VM, ↓Gd_none, ↓Gd_t, ↓Gd_f, reduceIte, reduceCtorEq, Int.reduceLE, Int.reduceLT, Int.reduceToNat, Int.reduceNeg, Nat.reduceLT, Nat.reduceEqDiff, Nat.reduceAdd, Nat.reduceSub, Nat.reduceMul, Nat.reduceLeDiff, k2]
        ((repeat refine W_seq ?_); refine W_cond (b := false) (by first | rfl | simp only [ev, get_cons, Nat.reduceEqDiff, if_true, if_false, reduceIte]) (fun h => by cases h) (fun _ => ?_))
        ((repeat refine W_seq ?_); refine W_exit ?_)
        simp (maxSteps := 1000000) only [VL, VM, ↓Gd_none, ↓Gd_t, ↓Gd_f, reduceIte, reduceCtorEq, Int.reduceLE, Int.reduceLT, Int.reduceToNat, Int.reduceNeg, Nat.reduceLT, Nat.reduceEqDiff, Nat.reduceAdd, Nat.reduceSub, Nat.reduceMul, Nat.reduceLeDiff]
        ((repeat refine W_seq ?_); refine W_region0 T_ok ?_)
        simp (maxSteps := 1000000) only [VL, VM, ↓Gd_none, ↓Gd_t, ↓Gd_f, reduceIte, reduceCtorEq, Int.reduceLE, Int.reduceLT, Int.reduceToNat, Int.reduceNeg, Nat.reduceLT, Nat.reduceEqDiff, Nat.reduceAdd, Nat.reduceSub, Nat.reduceMul, Nat.reduceLeDiff]
        rw [← hH0, List.append_assoc]
        (repeat refine W_seq ?_)
        refine W_ret ?_
        try simp only [thenQ, blockQ]
        refine own_ret1 rfl ?_ (by rfl)
        simp only [get_cons, frz, vtup, Nat.reduceEqDiff, if_true, if_false, reduceIte]
        rw [e1, over_none V (fun q y hy => hov q y (by have := (List.getElem?_eq_some_iff.1 hy).1; omega) hy)]
end Go.Proofs.Ytijcmgfblpokhaa.Vm

/- The program's loads of bays, on values. (Vm) -/
namespace Go.Proofs.Ytijcmgfblpokhaa.Vm
open Go Go.Proofs
def sumS (l : List Sp) : Sp := ⟨(l.map Sp.lo).sum, (l.map Sp.hi).sum⟩
theorem sumS_take {l : List Sp} {i : Nat} {x : Sp} (h : l[i]? = some x) : sumS (l.take (i + 1)) = ⟨(sumS (l.take i)).lo + x.lo, (sumS (l.take i)).hi + x.hi⟩ := by
  rw [List.take_add_one, h]
  simp [sumS, Option.toList]
theorem sumS_le {l : List Sp} (h : ∀ x ∈ l, 0 ≤ x.lo ∧ x.lo ≤ 1000000000 ∧ 0 ≤ x.hi ∧ x.hi ≤ 1000000000) : 0 ≤ (sumS l).lo ∧ (sumS l).lo ≤ 1000000000 * l.length ∧ 0 ≤ (sumS l).hi ∧ (sumS l).hi ≤ 1000000000 * l.length := by
  induction l with
  | nil => simp [sumS]
  | cons x l ih =>
    have ih := ih fun y hy => h y (List.mem_cons_of_mem _ hy)
    have hx := h x (List.mem_cons_self ..)
    simp only [sumS, List.map_cons, List.sum_cons, List.length_cons] at ih ⊢
    omega
theorem sum_vm (l : List Sp) (M : Mem) (hl : l.length ≤ 1000) (hb : ∀ x ∈ l, 0 ≤ x.lo ∧ x.lo ≤ 1000000000 ∧ 0 ≤ x.hi ∧ x.hi ≤ 1000000000) : VC Try.prog 97 [spsV l] M (fun r M' => M' = M ∧ r = spV (sumS l)) := by
  refine VC_own' T_ok (f := 97) (fn := Try.f97) (by kernel_rfl) rfl Try.ntmps97 (by rfl) (by rfl) ?_
  ((repeat refine W_seq ?_); refine W_region0 T_ok ?_)
  simp (maxSteps := 1000000) only [VL, VM, ↓Gd_none, ↓Gd_t, ↓Gd_f, reduceIte, reduceCtorEq, Int.reduceLE, Int.reduceLT, Int.reduceToNat, Int.reduceNeg, Nat.reduceLT, Nat.reduceEqDiff, Nat.reduceAdd, Nat.reduceSub, Nat.reduceMul, Nat.reduceLeDiff]
  ((repeat refine W_seq ?_); refine W_region0 T_ok ?_)
  simp (maxSteps := 1000000) only [VL, VM, ↓Gd_none, ↓Gd_t, ↓Gd_f, reduceIte, reduceCtorEq, Int.reduceLE, Int.reduceLT, Int.reduceToNat, Int.reduceNeg, Nat.reduceLT, Nat.reduceEqDiff, Nat.reduceAdd, Nat.reduceSub, Nat.reduceMul, Nat.reduceLeDiff]
  ((repeat refine W_seq ?_); refine W_region0 T_ok ?_)
  simp (maxSteps := 1000000) only [VL, VM, ↓Gd_none, ↓Gd_t, ↓Gd_f, reduceIte, reduceCtorEq, Int.reduceLE, Int.reduceLT, Int.reduceToNat, Int.reduceNeg, Nat.reduceLT, Nat.reduceEqDiff, Nat.reduceAdd, Nat.reduceSub, Nat.reduceMul, Nat.reduceLeDiff]
  ((repeat refine W_seq ?_); refine W_block ?_; (repeat refine W_seq ?_)); refine W_loopS (fun s : ChkSt => [(0, spsV l), (2, .ptr M.H.length 0), (3, .ptr (M.H.length + 1) 0), (6, spsV l), (7, vi l.length), (8, vi s.i)]) (fun s => ⟨M.H ++ (VObj.obj [vi 0, vi 0] :: VObj.obj [vi (sumS (l.take s.i)).lo, vi (sumS (l.take s.i)).hi] :: s.junk), M.lg⟩) (fun s => l.length - s.i) (fun s => s.i ≤ l.length) ⟨0, []⟩ (Nat.zero_le _) ⟨rfl, rfl, rfl, rfl, rfl, rfl, trivial⟩ rfl ?_
  rintro ⟨i, junk⟩ hi
  simp only at hi
  have k1 : -9223372036854775808 ≤ (i : Int) + 1 ∧ (i : Int) + 1 < 9223372036854775808 := by omega
  ((repeat refine W_seq ?_); refine W_region0 T_ok ?_)
  rcases Nat.lt_or_ge i l.length with hlt | hge
  · have k2 : ((i : Int) < (l.length : Int)) = True := eq_true (by omega)
    have hx : l[i]? = some l[i] := List.getElem?_eq_getElem hlt
    have hx' := map_at (f := spP) hx
    have hmem := List.getElem_mem hlt
    generalize hc : l[i] = x at hx hx' hmem
    have hs := sumS_le (l := l.take i) fun y hy => hb y (List.mem_of_mem_take hy)
    rw [List.length_take] at hs
    have hxb := hb x hmem
    have ht := sumS_take hx
    have q1 : -9223372036854775808 ≤ (sumS (l.take i)).lo + x.lo ∧ (sumS (l.take i)).lo + x.lo < 9223372036854775808 := by omega
    have q2 : -9223372036854775808 ≤ (sumS (l.take i)).hi + x.hi ∧ (sumS (l.take i)).hi + x.hi < 9223372036854775808 := by omega
    simp (maxSteps := 1000000) only [VL, VM, ↓Gd_none, ↓Gd_t, ↓Gd_f, reduceIte, reduceCtorEq, Int.reduceLE, Int.reduceLT, Int.reduceToNat, Int.reduceNeg, Nat.reduceLT, Nat.reduceEqDiff, Nat.reduceAdd, Nat.reduceSub, Nat.reduceMul, Nat.reduceLeDiff, k2]
    ((repeat refine W_seq ?_); refine W_cond (b := true) (by first | rfl | simp only [ev, get_cons, Nat.reduceEqDiff, if_true, if_false, reduceIte]) (fun _ => ?_) (fun h => by cases h))
    ((repeat refine W_seq ?_); refine W_skip ?_)
    simp (maxSteps := 1000000) only [VL, VM, ↓Gd_none, ↓Gd_t, ↓Gd_f, reduceIte, reduceCtorEq, Int.reduceLE, Int.reduceLT, Int.reduceToNat, Int.reduceNeg, Nat.reduceLT, Nat.reduceEqDiff, Nat.reduceAdd, Nat.reduceSub, Nat.reduceMul, Nat.reduceLeDiff]
    ((repeat refine W_seq ?_); refine W_block ?_)
    ((repeat refine W_seq ?_); refine W_region0 T_ok ?_)
    simp (maxSteps := 1000000) only [VL, VM, ↓Gd_none, ↓Gd_t, ↓Gd_f, reduceIte, reduceCtorEq, Int.reduceLE, Int.reduceLT, Int.reduceToNat, Int.reduceNeg, Nat.reduceLT, Nat.reduceEqDiff, Nat.reduceAdd, Nat.reduceSub, Nat.reduceMul, Nat.reduceLeDiff, hx']
    (repeat refine W_seq ?_)
    refine W_drawP T_ok [] (by kernel_rfl) (by kernel_rfl) ?_
    generalize hi : mkPlan _ = infs
    cbv at hi
    subst hi
    simp (maxSteps := 1000000) only [VL, VM, ↓Gd_none, ↓Gd_t, ↓Gd_f, reduceIte, reduceCtorEq, Int.reduceLE, Int.reduceLT, Int.reduceToNat, Int.reduceNeg, Nat.reduceLT, Nat.reduceEqDiff, Nat.reduceAdd, Nat.reduceSub, Nat.reduceMul, Nat.reduceLeDiff, q1, q2]
    ((repeat refine W_seq ?_); refine W_region0 T_ok ?_)
    simp (maxSteps := 1000000) only [VL, VM, ↓Gd_none, ↓Gd_t, ↓Gd_f, reduceIte, reduceCtorEq, Int.reduceLE, Int.reduceLT, Int.reduceToNat, Int.reduceNeg, Nat.reduceLT, Nat.reduceEqDiff, Nat.reduceAdd, Nat.reduceSub, Nat.reduceMul, Nat.reduceLeDiff, k1]
    refine LoopK.mk ⟨i + 1, junk ++ [VObj.obj [vi x.lo, vi x.hi]]⟩ (by simp only; omega) (by simp only; omega) ⟨rfl, rfl, rfl, rfl, rfl, rfl, trivial⟩ (by simp only [ht])
  · have k2 : ((i : Int) < (l.length : Int)) = False := eq_false (by omega)
    obtain rfl : i = l.length := by omega
    simp (maxSteps := 1000000) only [VL, VM, ↓Gd_none, ↓Gd_t, ↓Gd_f, reduceIte, reduceCtorEq, Int.reduceLE, Int.reduceLT, Int.reduceToNat, Int.reduceNeg, Nat.reduceLT, Nat.reduceEqDiff, Nat.reduceAdd, Nat.reduceSub, Nat.reduceMul, Nat.reduceLeDiff, k2]
    ((repeat refine W_seq ?_); refine W_cond (b := false) (by first | rfl | simp only [ev, get_cons, Nat.reduceEqDiff, if_true, if_false, reduceIte]) (fun h => by cases h) (fun _ => ?_))
    ((repeat refine W_seq ?_); refine W_exit ?_)
    simp (maxSteps := 1000000) only [VL, VM, ↓Gd_none, ↓Gd_t, ↓Gd_f, reduceIte, reduceCtorEq, Int.reduceLE, Int.reduceLT, Int.reduceToNat, Int.reduceNeg, Nat.reduceLT, Nat.reduceEqDiff, Nat.reduceAdd, Nat.reduceSub, Nat.reduceMul, Nat.reduceLeDiff]
    ((repeat refine W_seq ?_); refine W_region0 T_ok ?_)
    simp (maxSteps := 1000000) only [VL, VM, ↓Gd_none, ↓Gd_t, ↓Gd_f, reduceIte, reduceCtorEq, Int.reduceLE, Int.reduceLT, Int.reduceToNat, Int.reduceNeg, Nat.reduceLT, Nat.reduceEqDiff, Nat.reduceAdd, Nat.reduceSub, Nat.reduceMul, Nat.reduceLeDiff]
    (repeat refine W_seq ?_)
    refine W_ret ?_
    try simp only [thenQ, blockQ]
    refine own_ret (vs := [spV (sumS l)]) ?_ rfl rfl ⟨rfl, rfl⟩
    rw [List.take_length]
    simp [Try.f97, vresL, vload, t_span, get_cons, hget0, strip1]
    rfl
end Go.Proofs.Ytijcmgfblpokhaa.Vm

/- The program's loads of bays, on values, part 2. (Vm) -/
namespace Go.Proofs.Ytijcmgfblpokhaa.Vm
open Go Go.Proofs
theorem loadsOf_len (h : Ha) (l : List Pu) : (loadsOf h l).length = (baysOf h).toNat := by simp [loadsOf]
theorem loadsOf_nil (h : Ha) : loadsOf h [] = List.replicate (baysOf h).toNat ⟨0, 0⟩ := by
  apply List.ext_getElem
  · simp [loadsOf]
  · intro i h1 h2
    simp [loadsOf, loadAt]
theorem loadsOf_at {h : Ha} {l : List Pu} {k : Nat} (hk : k < (baysOf h).toNat) : (loadsOf h l)[k]? = some (loadAt h l k) := by
  simp [loadsOf, hk]
theorem loads_vm (h : Ha) (l : List Pu) (M : Mem) (V : VH h) (hg : ∀ o ∈ l, GoodP h o) (hl : l.length ≤ 500) : VC Try.prog 72 [hallV h, pusV l] M (fun r M' => M' = M ∧ r = spsV (loadsOf h l)) := by
  have hS := V.small
  have hbp := bays_pos V
  have b0 : 0 ≤ baysOf h := by omega
  have b1 : ((baysOf h).toNat * 16 ≤ 140737488355328) = True := eq_true (by omega)
  have b2 : ((baysOf h).toNat ≤ 9223372036854775807) = True := eq_true (by omega)
  refine VC_own' T_ok (f := 72) (fn := Try.f72) (by kernel_rfl) rfl Try.ntmps72 (by rfl) (by rfl) ?_
  ((repeat refine W_seq ?_); refine W_region0 T_ok ?_)
  simp (maxSteps := 1000000) only [VL, VM, ↓Gd_none, ↓Gd_t, ↓Gd_f, reduceIte, reduceCtorEq, Int.reduceLE, Int.reduceLT, Int.reduceToNat, Int.reduceNeg, Nat.reduceLT, Nat.reduceEqDiff, Nat.reduceAdd, Nat.reduceSub, Nat.reduceMul, Nat.reduceLeDiff]
  ((repeat refine W_seq ?_); refine W_region0 T_ok ?_)
  simp (maxSteps := 1000000) only [VL, VM, ↓Gd_none, ↓Gd_t, ↓Gd_f, reduceIte, reduceCtorEq, Int.reduceLE, Int.reduceLT, Int.reduceToNat, Int.reduceNeg, Nat.reduceLT, Nat.reduceEqDiff, Nat.reduceAdd, Nat.reduceSub, Nat.reduceMul, Nat.reduceLeDiff]
  apply call_eq (f := 79) (fn := Try.f79) (by kernel_rfl) (by rfl)
  · exact bays_vm h _ hS
  simp (maxSteps := 1000000) only [VL, VM, ↓Gd_none, ↓Gd_t, ↓Gd_f, reduceIte, reduceCtorEq, Int.reduceLE, Int.reduceLT, Int.reduceToNat, Int.reduceNeg, Nat.reduceLT, Nat.reduceEqDiff, Nat.reduceAdd, Nat.reduceSub, Nat.reduceMul, Nat.reduceLeDiff, b0, b1, b2, spCs_rep]
  rw [← loadsOf_nil]
  ((repeat refine W_seq ?_); refine W_region0 T_ok ?_)
  simp (maxSteps := 1000000) only [VL, VM, ↓Gd_none, ↓Gd_t, ↓Gd_f, reduceIte, reduceCtorEq, Int.reduceLE, Int.reduceLT, Int.reduceToNat, Int.reduceNeg, Nat.reduceLT, Nat.reduceEqDiff, Nat.reduceAdd, Nat.reduceSub, Nat.reduceMul, Nat.reduceLeDiff]
  ((repeat refine W_seq ?_); refine W_block ?_; (repeat refine W_seq ?_)); refine W_loopS (fun s : ChkSt => [(0, hallV h), (1, pusV l), (2, .ptr M.H.length 0), (5, .bf (M.H.length + 1) 0 (baysOf h).toNat 2), (12, pusV l), (13, vi l.length), (14, vi s.i)]) (fun s => ⟨M.H ++ (VObj.obj (hallC h) :: VObj.obj (spCs (loadsOf h (l.take s.i))) :: s.junk), M.lg⟩) (fun s => l.length - s.i) (fun s => s.i ≤ l.length) ⟨0, []⟩ (Nat.zero_le _) ⟨rfl, rfl, rfl, rfl, rfl, rfl, rfl, trivial⟩ rfl ?_
  rintro ⟨i, junk⟩ hi
  simp only at hi
  have k1 : -9223372036854775808 ≤ (i : Int) + 1 ∧ (i : Int) + 1 < 9223372036854775808 := by omega
  ((repeat refine W_seq ?_); refine W_region0 T_ok ?_)
  rcases Nat.lt_or_ge i l.length with hlt | hge
  · have k2 : ((i : Int) < (l.length : Int)) = True := eq_true (by omega)
    have hx : l[i]? = some l[i] := List.getElem?_eq_getElem hlt
    have hx' := map_at (f := puP) hx
    have hmem := List.getElem_mem hlt
    generalize hc : l[i] = p at hx hx' hmem
    have gp := hg p hmem
    obtain ⟨p1, p2, p3, p4, p5, p6⟩ := gp.bounds V
    have kp := map_at (f := kiP) (kAt_some p5 p6)
    have hb := bay_in V gp.1
    have hb0 := hb.1
    have hkl : (bayOf h p.pl).toNat < (baysOf h).toNat := by omega
    have c1 : ((bayOf h p.pl).toNat < (baysOf h).toNat) = True := eq_true hkl
    have c2 : ((bayOf h p.pl).toNat * 2 + 2 ≤ (spCs (loadsOf h (l.take i))).length) = True := eq_true (by rw [spCs_len, loadsOf_len]; omega)
    have c3 := spCs_at (loadsOf_at (l := l.take i) hkl)
    have hvk := kAt_VK V p5 p6
    have hle := loadAt_le (l := l.take i) V (fun o ho => hg o (List.mem_of_mem_take ho)) (bayOf h p.pl).toNat
    rw [List.length_take, Nat.min_eq_left hi] at hle
    have hle1 : (loadAt h (l.take i) (bayOf h p.pl).toNat).lo ≤ 1000000000 := by omega
    have hle2 : (loadAt h (l.take i) (bayOf h p.pl).toNat).hi ≤ 1000000000 := by omega
    have hsn := loadsOf_snoc h (l.take i) p (bayOf h p.pl).toNat (by omega)
    rw [show l.take i ++ [p] = l.take (i + 1) by rw [List.take_add_one, hx]; rfl] at hsn
    have c4 := spCs_set (l := loadsOf h (l.take i)) (k := (bayOf h p.pl).toNat) ⟨(loadAt h (l.take i) (bayOf h p.pl).toNat).lo + (kAt h p.kind).lo, (loadAt h (l.take i) (bayOf h p.pl).toNat).hi + (kAt h p.kind).hi⟩ (by rw [loadsOf_len]; exact hkl)
    rw [← hsn] at c4
    simp only at c4
    simp (maxSteps := 1000000) only [VL, VM, ↓Gd_none, ↓Gd_t, ↓Gd_f, reduceIte, reduceCtorEq, Int.reduceLE, Int.reduceLT, Int.reduceToNat, Int.reduceNeg, Nat.reduceLT, Nat.reduceEqDiff, Nat.reduceAdd, Nat.reduceSub, Nat.reduceMul, Nat.reduceLeDiff, k2]
    ((repeat refine W_seq ?_); refine W_cond (b := true) (by first | rfl | simp only [ev, get_cons, Nat.reduceEqDiff, if_true, if_false, reduceIte]) (fun _ => ?_) (fun h => by cases h))
    ((repeat refine W_seq ?_); refine W_skip ?_)
    simp (maxSteps := 1000000) only [VL, VM, ↓Gd_none, ↓Gd_t, ↓Gd_f, reduceIte, reduceCtorEq, Int.reduceLE, Int.reduceLT, Int.reduceToNat, Int.reduceNeg, Nat.reduceLT, Nat.reduceEqDiff, Nat.reduceAdd, Nat.reduceSub, Nat.reduceMul, Nat.reduceLeDiff]
    ((repeat refine W_seq ?_); refine W_block ?_)
    ((repeat refine W_seq ?_); refine W_region0 T_ok ?_)
    simp (maxSteps := 1000000) only [VL, VM, ↓Gd_none, ↓Gd_t, ↓Gd_f, reduceIte, reduceCtorEq, Int.reduceLE, Int.reduceLT, Int.reduceToNat, Int.reduceNeg, Nat.reduceLT, Nat.reduceEqDiff, Nat.reduceAdd, Nat.reduceSub, Nat.reduceMul, Nat.reduceLeDiff, hx']
    ((repeat refine W_seq ?_); refine W_region0 T_ok ?_)
    simp (maxSteps := 1000000) only [VL, VM, ↓Gd_none, ↓Gd_t, ↓Gd_f, reduceIte, reduceCtorEq, Int.reduceLE, Int.reduceLT, Int.reduceToNat, Int.reduceNeg, Nat.reduceLT, Nat.reduceEqDiff, Nat.reduceAdd, Nat.reduceSub, Nat.reduceMul, Nat.reduceLeDiff]
    apply call_eq (f := 96) (fn := Try.f96) (by kernel_rfl) (by rfl)
    · exact bay_vm h p.pl _ hS p1 (by omega) p3 (by omega)
    simp (maxSteps := 1000000) only [VL, VM, ↓Gd_none, ↓Gd_t, ↓Gd_f, reduceIte, reduceCtorEq, Int.reduceLE, Int.reduceLT, Int.reduceToNat, Int.reduceNeg, Nat.reduceLT, Nat.reduceEqDiff, Nat.reduceAdd, Nat.reduceSub, Nat.reduceMul, Nat.reduceLeDiff]
    (repeat refine W_seq ?_)
    refine W_drawP T_ok [] (by kernel_rfl) (by kernel_rfl) ?_
    generalize hi : mkPlan _ = infs
    cbv at hi
    subst hi
    simp (maxSteps := 1000000) only [VL, VM, ↓Gd_none, ↓Gd_t, ↓Gd_f, reduceIte, reduceCtorEq, Int.reduceLE, Int.reduceLT, Int.reduceToNat, Int.reduceNeg, Nat.reduceLT, Nat.reduceEqDiff, Nat.reduceAdd, Nat.reduceSub, Nat.reduceMul, Nat.reduceLeDiff, hb0, c1, c2, c3, p5, kp]
    apply call_d (f := 97) (fn := Try.f97) (by kernel_rfl) (by rfl)
    · exact sum_vm [loadAt h (l.take i) (bayOf h p.pl).toNat, ⟨(kAt h p.kind).lo, (kAt h p.kind).hi⟩] _ (by simp) (by have := hvk.lo0; have := hvk.loHi; have := hvk.hi1; simp; omega)
    simp (maxSteps := 1000000) only [VL, VM, ↓Gd_none, ↓Gd_t, ↓Gd_f, reduceIte, reduceCtorEq, Int.reduceLE, Int.reduceLT, Int.reduceToNat, Int.reduceNeg, Nat.reduceLT, Nat.reduceEqDiff, Nat.reduceAdd, Nat.reduceSub, Nat.reduceMul, Nat.reduceLeDiff, hb0, c1, c2, c3, p5, kp, sumS, List.sum_cons, List.sum_nil, Int.add_zero, c4]
    ((repeat refine W_seq ?_); refine W_region0 T_ok ?_)
    simp (maxSteps := 1000000) only [VL, VM, ↓Gd_none, ↓Gd_t, ↓Gd_f, reduceIte, reduceCtorEq, Int.reduceLE, Int.reduceLT, Int.reduceToNat, Int.reduceNeg, Nat.reduceLT, Nat.reduceEqDiff, Nat.reduceAdd, Nat.reduceSub, Nat.reduceMul, Nat.reduceLeDiff, k1]
    refine LoopK.mk ⟨i + 1, junk ++ [VObj.obj [vi p.pl.x, vi p.pl.y, vi p.kind]]⟩ (by simp only; omega) (by simp only; omega) ⟨rfl, rfl, rfl, rfl, rfl, rfl, rfl, trivial⟩ rfl
  · have k2 : ((i : Int) < (l.length : Int)) = False := eq_false (by omega)
    obtain rfl : i = l.length := by omega
    simp (maxSteps := 1000000) only [VL, VM, ↓Gd_none, ↓Gd_t, ↓Gd_f, reduceIte, reduceCtorEq, Int.reduceLE, Int.reduceLT, Int.reduceToNat, Int.reduceNeg, Nat.reduceLT, Nat.reduceEqDiff, Nat.reduceAdd, Nat.reduceSub, Nat.reduceMul, Nat.reduceLeDiff, k2]
    ((repeat refine W_seq ?_); refine W_cond (b := false) (by first | rfl | simp only [ev, get_cons, Nat.reduceEqDiff, if_true, if_false, reduceIte]) (fun h => by cases h) (fun _ => ?_))
    ((repeat refine W_seq ?_); refine W_exit ?_)
    simp (maxSteps := 1000000) only [VL, VM, ↓Gd_none, ↓Gd_t, ↓Gd_f, reduceIte, reduceCtorEq, Int.reduceLE, Int.reduceLT, Int.reduceToNat, Int.reduceNeg, Nat.reduceLT, Nat.reduceEqDiff, Nat.reduceAdd, Nat.reduceSub, Nat.reduceMul, Nat.reduceLeDiff]
    ((repeat refine W_seq ?_); refine W_region0 T_ok ?_)
    simp (maxSteps := 1000000) only [VL, VM, ↓Gd_none, ↓Gd_t, ↓Gd_f, reduceIte, reduceCtorEq, Int.reduceLE, Int.reduceLT, Int.reduceToNat, Int.reduceNeg, Nat.reduceLT, Nat.reduceEqDiff, Nat.reduceAdd, Nat.reduceSub, Nat.reduceMul, Nat.reduceLeDiff]
    (repeat refine W_seq ?_)
    refine W_ret ?_
    try simp only [thenQ, blockQ]
    refine own_ret1 rfl ?_ (by rfl)
    simp only [get_cons, frz, vtup, Nat.reduceEqDiff, if_true, if_false, reduceIte]
    rw [List.take_length, ← loadsOf_len h l]
    exact frz_spans (by omega) (by rw [hget]; rfl)
theorem checkLayout_vm (h : Ha) (l : List Pu) (M : Mem) (F : Fin h) (hl : l.length ≤ 1000000) : VC Try.prog 37 [hallV h, pusV l] M (fun r M' => M' = M ∧ r = vi (layoutErr h l)) := by
  refine VC_own' T_ok (f := 37) (fn := Try.f37) (by kernel_rfl) rfl Try.ntmps37 (by rfl) (by rfl) ?_
  ((repeat refine W_seq ?_); refine W_region0 T_ok ?_)
  simp (maxSteps := 1000000) only [VL, VM, ↓Gd_none, ↓Gd_t, ↓Gd_f, reduceIte, reduceCtorEq, Int.reduceLE, Int.reduceLT, Int.reduceToNat, Int.reduceNeg, Nat.reduceLT, Nat.reduceEqDiff, Nat.reduceAdd, Nat.reduceSub, Nat.reduceMul, Nat.reduceLeDiff]
  ((repeat refine W_seq ?_); refine W_region0 T_ok ?_)
  simp (maxSteps := 1000000) only [VL, VM, ↓Gd_none, ↓Gd_t, ↓Gd_f, reduceIte, reduceCtorEq, Int.reduceLE, Int.reduceLT, Int.reduceToNat, Int.reduceNeg, Nat.reduceLT, Nat.reduceEqDiff, Nat.reduceAdd, Nat.reduceSub, Nat.reduceMul, Nat.reduceLeDiff]
  apply call_eq (f := 36) (fn := Try.f36) (by kernel_rfl) (by rfl)
  · exact check_vm h _ F
  simp (maxSteps := 1000000) only [VL, VM, ↓Gd_none, ↓Gd_t, ↓Gd_f, reduceIte, reduceCtorEq, Int.reduceLE, Int.reduceLT, Int.reduceToNat, Int.reduceNeg, Nat.reduceLT, Nat.reduceEqDiff, Nat.reduceAdd, Nat.reduceSub, Nat.reduceMul, Nat.reduceLeDiff]
  ((repeat refine W_seq ?_); refine W_region0 T_ok ?_)
  by_cases e : hallErr h = 0
  · simp (maxSteps := 1000000) only [VL, VM, ↓Gd_none, ↓Gd_t, ↓Gd_f, reduceIte, reduceCtorEq, Int.reduceLE, Int.reduceLT, Int.reduceToNat, Int.reduceNeg, Nat.reduceLT, Nat.reduceEqDiff, Nat.reduceAdd, Nat.reduceSub, Nat.reduceMul, Nat.reduceLeDiff, e]
    ((repeat refine W_seq ?_); refine W_cond (b := false) (by first | rfl | simp only [ev, get_cons, Nat.reduceEqDiff, if_true, if_false, reduceIte]) (fun h => by cases h) (fun _ => ?_))
    ((repeat refine W_seq ?_); refine W_skip ?_)
    simp (maxSteps := 1000000) only [VL, VM, ↓Gd_none, ↓Gd_t, ↓Gd_f, reduceIte, reduceCtorEq, Int.reduceLE, Int.reduceLT, Int.reduceToNat, Int.reduceNeg, Nat.reduceLT, Nat.reduceEqDiff, Nat.reduceAdd, Nat.reduceSub, Nat.reduceMul, Nat.reduceLeDiff]
    ((repeat refine W_seq ?_); refine W_region0 T_ok ?_)
    simp (maxSteps := 1000000) only [VL, VM, ↓Gd_none, ↓Gd_t, ↓Gd_f, reduceIte, reduceCtorEq, Int.reduceLE, Int.reduceLT, Int.reduceToNat, Int.reduceNeg, Nat.reduceLT, Nat.reduceEqDiff, Nat.reduceAdd, Nat.reduceSub, Nat.reduceMul, Nat.reduceLeDiff]
    apply call_eq (f := 68) (fn := Try.f68) (by kernel_rfl) (by rfl)
    · exact checklayout_vm h l _ (VH.of e) hl
    simp (maxSteps := 1000000) only [VL, VM, ↓Gd_none, ↓Gd_t, ↓Gd_f, reduceIte, reduceCtorEq, Int.reduceLE, Int.reduceLT, Int.reduceToNat, Int.reduceNeg, Nat.reduceLT, Nat.reduceEqDiff, Nat.reduceAdd, Nat.reduceSub, Nat.reduceMul, Nat.reduceLeDiff]
    (repeat refine W_seq ?_)
    refine W_ret ?_
    try simp only [thenQ, blockQ]
    refine own_ret1 rfl ?_ (by rfl)
    simp only [get_cons, frz, vtup, Nat.reduceEqDiff, if_true, if_false, reduceIte]
    simp [layoutErr, e]
  · simp (maxSteps := 1000000) only [VL, VM, ↓Gd_none, ↓Gd_t, ↓Gd_f, reduceIte, reduceCtorEq, Int.reduceLE, Int.reduceLT, Int.reduceToNat, Int.reduceNeg, Nat.reduceLT, Nat.reduceEqDiff, Nat.reduceAdd, Nat.reduceSub, Nat.reduceMul, Nat.reduceLeDiff, e]
    ((repeat refine W_seq ?_); refine W_cond (b := true) (by first | rfl | simp only [ev, get_cons, Nat.reduceEqDiff, if_true, if_false, reduceIte]) (fun _ => ?_) (fun h => by cases h))
    ((repeat refine W_seq ?_); refine W_region0 T_ok ?_)
    simp (maxSteps := 1000000) only [VL, VM, ↓Gd_none, ↓Gd_t, ↓Gd_f, reduceIte, reduceCtorEq, Int.reduceLE, Int.reduceLT, Int.reduceToNat, Int.reduceNeg, Nat.reduceLT, Nat.reduceEqDiff, Nat.reduceAdd, Nat.reduceSub, Nat.reduceMul, Nat.reduceLeDiff]
    (repeat refine W_seq ?_)
    refine W_ret ?_
    try simp only [thenQ, blockQ]
    refine own_ret1 rfl ?_ (by rfl)
    simp only [get_cons, frz, vtup, Nat.reduceEqDiff, if_true, if_false, reduceIte]
    simp [layoutErr, e]
end Go.Proofs.Ytijcmgfblpokhaa.Vm

/- The program's Loads, Bears and Earns, on values. (Vm) -/
namespace Go.Proofs.Ytijcmgfblpokhaa.Vm
open Go Go.Proofs
theorem own_ret2 {T : Tab} {f : Nat} {fn : Func} {M : Mem} {L : List VObj} {e : Env} {s t : Nat} {X Y : VV} (h1 : fn.results.toList = [.tmp s, .tmp t]) (hx : frz M.H.length (M.H ++ L) (get e s) = X) (hy : frz M.H.length (M.H ++ L) (get e t) = Y) (h2 : refs X = []) (h3 : refs Y = []) : ownQ T f fn M (fun r M' => M' = M ∧ r = .tup [X, Y]) .ret e ⟨M.H ++ L, M.lg⟩ [] :=
  own_ret (vs := [get e s, get e t]) (r := .tup [X, Y]) (by rw [h1]; rfl) (by rw [← hx, ← hy]; rfl) (by simp [refs, refsL, h2, h3]) ⟨rfl, rfl⟩
set_option maxRecDepth 100000 in
theorem bears_vm (h : Ha) (l : List Pu) (M : Mem) (V : VH h) (hg : ∀ o ∈ l, GoodP h o) (hl : l.length ≤ 500) : VC Try.prog 69 [hallV h, pusV l] M (fun r M' => M' = M ∧ r = vi (verdictOf h l)) := by
  have hbl := V.bears
  have hll : (loadsOf h l).length = h.bears.length := by rw [loadsOf_len]; omega
  have hbp := bays_pos V
  refine VC_own' T_ok (f := 69) (fn := Try.f69) (by kernel_rfl) rfl Try.ntmps69 (by rfl) (by rfl) ?_
  ((repeat refine W_seq ?_); refine W_region0 T_ok ?_)
  simp (maxSteps := 1000000) only [VL, VM, ↓Gd_none, ↓Gd_t, ↓Gd_f, reduceIte, reduceCtorEq, Int.reduceLE, Int.reduceLT, Int.reduceToNat, Int.reduceNeg, Nat.reduceLT, Nat.reduceEqDiff, Nat.reduceAdd, Nat.reduceSub, Nat.reduceMul, Nat.reduceLeDiff]
  ((repeat refine W_seq ?_); refine W_region0 T_ok ?_)
  simp (maxSteps := 1000000) only [VL, VM, ↓Gd_none, ↓Gd_t, ↓Gd_f, reduceIte, reduceCtorEq, Int.reduceLE, Int.reduceLT, Int.reduceToNat, Int.reduceNeg, Nat.reduceLT, Nat.reduceEqDiff, Nat.reduceAdd, Nat.reduceSub, Nat.reduceMul, Nat.reduceLeDiff]
  ((repeat refine W_seq ?_); refine W_region0 T_ok ?_)
  simp (maxSteps := 1000000) only [VL, VM, ↓Gd_none, ↓Gd_t, ↓Gd_f, reduceIte, reduceCtorEq, Int.reduceLE, Int.reduceLT, Int.reduceToNat, Int.reduceNeg, Nat.reduceLT, Nat.reduceEqDiff, Nat.reduceAdd, Nat.reduceSub, Nat.reduceMul, Nat.reduceLeDiff]
  apply call_eq (f := 72) (fn := Try.f72) (by kernel_rfl) (by rfl)
  · exact loads_vm h l _ V hg hl
  simp (maxSteps := 1000000) only [VL, VM, ↓Gd_none, ↓Gd_t, ↓Gd_f, reduceIte, reduceCtorEq, Int.reduceLE, Int.reduceLT, Int.reduceToNat, Int.reduceNeg, Nat.reduceLT, Nat.reduceEqDiff, Nat.reduceAdd, Nat.reduceSub, Nat.reduceMul, Nat.reduceLeDiff, hll]
  ((repeat refine W_seq ?_); refine W_block ?_; (repeat refine W_seq ?_)); refine W_loopS (fun s : ChkSt => [(0, hallV h), (1, pusV l), (2, .ptr M.H.length 0), (5, vi (if fitsHi h l s.i then 1 else 3)), (10, spsV (loadsOf h l)), (11, vi h.bears.length), (12, vi s.i)]) (fun s => ⟨M.H ++ (VObj.obj (hallC h) :: s.junk), M.lg⟩) (fun s => h.bears.length - s.i) (fun s => s.i ≤ h.bears.length ∧ fitsLo h l s.i = true) ⟨0, []⟩ ⟨Nat.zero_le _, rfl⟩ ⟨rfl, rfl, rfl, rfl, rfl, rfl, rfl, trivial⟩ rfl ?_
  rintro ⟨i, junk⟩ ⟨hi, hlo⟩
  simp only at hi hlo
  have k1 : -9223372036854775808 ≤ (i : Int) + 1 ∧ (i : Int) + 1 < 9223372036854775808 := by omega
  ((repeat refine W_seq ?_); refine W_region0 T_ok ?_)
  rcases Nat.lt_or_ge i h.bears.length with hlt | hge
  · have k2 : ((i : Int) < (h.bears.length : Int)) = True := eq_true (by omega)
    have hx : h.bears[i]? = some h.bears[i] := List.getElem?_eq_getElem hlt
    have hx' := map_at (f := intP) hx
    have hy := loadsOf_at (h := h) (l := l) (k := i) (by omega)
    have hy' := map_at (f := spP) hy
    have hgd : h.bears.getD i 0 = h.bears[i] := by simp [hlt]
    generalize hc : h.bears[i] = b at hx hx' hgd
    have f1 := fitsHi_step h l i
    have f2 := fitsLo_step h l i
    rw [hgd] at f1 f2
    simp (maxSteps := 1000000) only [VL, VM, ↓Gd_none, ↓Gd_t, ↓Gd_f, reduceIte, reduceCtorEq, Int.reduceLE, Int.reduceLT, Int.reduceToNat, Int.reduceNeg, Nat.reduceLT, Nat.reduceEqDiff, Nat.reduceAdd, Nat.reduceSub, Nat.reduceMul, Nat.reduceLeDiff, k2]
    ((repeat refine W_seq ?_); refine W_cond (b := true) (by first | rfl | simp only [ev, get_cons, Nat.reduceEqDiff, if_true, if_false, reduceIte]) (fun _ => ?_) (fun h => by cases h))
    ((repeat refine W_seq ?_); refine W_skip ?_)
    simp (maxSteps := 1000000) only [VL, VM, ↓Gd_none, ↓Gd_t, ↓Gd_f, reduceIte, reduceCtorEq, Int.reduceLE, Int.reduceLT, Int.reduceToNat, Int.reduceNeg, Nat.reduceLT, Nat.reduceEqDiff, Nat.reduceAdd, Nat.reduceSub, Nat.reduceMul, Nat.reduceLeDiff]
    ((repeat refine W_seq ?_); refine W_block ?_)
    ((repeat refine W_seq ?_); refine W_region0 T_ok ?_)
    simp (maxSteps := 1000000) only [VL, VM, ↓Gd_none, ↓Gd_t, ↓Gd_f, reduceIte, reduceCtorEq, Int.reduceLE, Int.reduceLT, Int.reduceToNat, Int.reduceNeg, Nat.reduceLT, Nat.reduceEqDiff, Nat.reduceAdd, Nat.reduceSub, Nat.reduceMul, Nat.reduceLeDiff, hy']
    ((repeat refine W_seq ?_); refine W_block ?_)
    (repeat refine W_seq ?_)
    refine W_drawP T_ok [] (by kernel_rfl) (by kernel_rfl) ?_
    generalize hi : mkPlan _ = infs
    cbv at hi
    subst hi
    by_cases a1 : b < (loadAt h l i).lo
    · simp (maxSteps := 1000000) only [VL, VM, ↓Gd_none, ↓Gd_t, ↓Gd_f, reduceIte, reduceCtorEq, Int.reduceLE, Int.reduceLT, Int.reduceToNat, Int.reduceNeg, Nat.reduceLT, Nat.reduceEqDiff, Nat.reduceAdd, Nat.reduceSub, Nat.reduceMul, Nat.reduceLeDiff, hx', a1]
      ((repeat refine W_seq ?_); refine W_cond (b := true) (by first | rfl | simp only [ev, get_cons, Nat.reduceEqDiff, if_true, if_false, reduceIte]) (fun _ => ?_) (fun h => by cases h))
      ((repeat refine W_seq ?_); refine W_region0 T_ok ?_)
      simp (maxSteps := 1000000) only [VL, VM, ↓Gd_none, ↓Gd_t, ↓Gd_f, reduceIte, reduceCtorEq, Int.reduceLE, Int.reduceLT, Int.reduceToNat, Int.reduceNeg, Nat.reduceLT, Nat.reduceEqDiff, Nat.reduceAdd, Nat.reduceSub, Nat.reduceMul, Nat.reduceLeDiff]
      (repeat refine W_seq ?_)
      refine W_ret ?_
      try simp only [thenQ, blockQ]
      refine own_ret1 rfl ?_ (by rfl)
      simp only [get_cons, frz, vtup, Nat.reduceEqDiff, if_true, if_false, reduceIte]
      have q1 : fitsLo h l h.bears.length = false := by
        cases hq : fitsLo h l h.bears.length
        · rfl
        · unfold fitsLo at hq
          rw [List.all_eq_true] at hq
          have := hq i (List.mem_range.2 hlt)
          rw [hgd] at this
          simp at this
          omega
      have q2 : fitsHi h l h.bears.length = false := by
        cases hq : fitsHi h l h.bears.length
        · rfl
        · unfold fitsHi at hq
          rw [List.all_eq_true] at hq
          have := hq i (List.mem_range.2 hlt)
          rw [hgd] at this
          have h3 := loadAt_lohi V hg i
          simp at this
          omega
      rw [verdictOf, q1, q2]; rfl
    · simp (maxSteps := 1000000) only [VL, VM, ↓Gd_none, ↓Gd_t, ↓Gd_f, reduceIte, reduceCtorEq, Int.reduceLE, Int.reduceLT, Int.reduceToNat, Int.reduceNeg, Nat.reduceLT, Nat.reduceEqDiff, Nat.reduceAdd, Nat.reduceSub, Nat.reduceMul, Nat.reduceLeDiff, hx', a1]
      ((repeat refine W_seq ?_); refine W_cond (b := false) (by first | rfl | simp only [ev, get_cons, Nat.reduceEqDiff, if_true, if_false, reduceIte]) (fun h => by cases h) (fun _ => ?_))
      (repeat refine W_seq ?_)
      refine W_drawP T_ok [] (by kernel_rfl) (by kernel_rfl) ?_
      generalize hi : mkPlan _ = infs
      cbv at hi
      subst hi
      by_cases a2 : b < (loadAt h l i).hi
      · simp (maxSteps := 1000000) only [VL, VM, ↓Gd_none, ↓Gd_t, ↓Gd_f, reduceIte, reduceCtorEq, Int.reduceLE, Int.reduceLT, Int.reduceToNat, Int.reduceNeg, Nat.reduceLT, Nat.reduceEqDiff, Nat.reduceAdd, Nat.reduceSub, Nat.reduceMul, Nat.reduceLeDiff, hx', a2]
        ((repeat refine W_seq ?_); refine W_cond (b := true) (by first | rfl | simp only [ev, get_cons, Nat.reduceEqDiff, if_true, if_false, reduceIte]) (fun _ => ?_) (fun h => by cases h))
        ((repeat refine W_seq ?_); refine W_region0 T_ok ?_)
        simp (maxSteps := 1000000) only [VL, VM, ↓Gd_none, ↓Gd_t, ↓Gd_f, reduceIte, reduceCtorEq, Int.reduceLE, Int.reduceLT, Int.reduceToNat, Int.reduceNeg, Nat.reduceLT, Nat.reduceEqDiff, Nat.reduceAdd, Nat.reduceSub, Nat.reduceMul, Nat.reduceLeDiff]
        ((repeat refine W_seq ?_); refine W_region0 T_ok ?_)
        simp (maxSteps := 1000000) only [VL, VM, ↓Gd_none, ↓Gd_t, ↓Gd_f, reduceIte, reduceCtorEq, Int.reduceLE, Int.reduceLT, Int.reduceToNat, Int.reduceNeg, Nat.reduceLT, Nat.reduceEqDiff, Nat.reduceAdd, Nat.reduceSub, Nat.reduceMul, Nat.reduceLeDiff, k1]
        refine LoopK.mk ⟨i + 1, junk ++ [VObj.obj [vi (loadAt h l i).lo, vi (loadAt h l i).hi]]⟩ (by simp only; omega) ⟨by simp only; omega, by simp only; rw [f2, hlo]; simp; omega⟩ ⟨rfl, rfl, rfl, ?_, rfl, rfl, rfl, trivial⟩ rfl
        rw [f1, decide_eq_false (by omega), Bool.and_false]; rfl
      · simp (maxSteps := 1000000) only [VL, VM, ↓Gd_none, ↓Gd_t, ↓Gd_f, reduceIte, reduceCtorEq, Int.reduceLE, Int.reduceLT, Int.reduceToNat, Int.reduceNeg, Nat.reduceLT, Nat.reduceEqDiff, Nat.reduceAdd, Nat.reduceSub, Nat.reduceMul, Nat.reduceLeDiff, hx', a2]
        ((repeat refine W_seq ?_); refine W_cond (b := false) (by first | rfl | simp only [ev, get_cons, Nat.reduceEqDiff, if_true, if_false, reduceIte]) (fun h => by cases h) (fun _ => ?_))
        ((repeat refine W_seq ?_); refine W_skip ?_)
        simp (maxSteps := 1000000) only [VL, VM, ↓Gd_none, ↓Gd_t, ↓Gd_f, reduceIte, reduceCtorEq, Int.reduceLE, Int.reduceLT, Int.reduceToNat, Int.reduceNeg, Nat.reduceLT, Nat.reduceEqDiff, Nat.reduceAdd, Nat.reduceSub, Nat.reduceMul, Nat.reduceLeDiff]
        ((repeat refine W_seq ?_); refine W_region0 T_ok ?_)
        simp (maxSteps := 1000000) only [VL, VM, ↓Gd_none, ↓Gd_t, ↓Gd_f, reduceIte, reduceCtorEq, Int.reduceLE, Int.reduceLT, Int.reduceToNat, Int.reduceNeg, Nat.reduceLT, Nat.reduceEqDiff, Nat.reduceAdd, Nat.reduceSub, Nat.reduceMul, Nat.reduceLeDiff, k1]
        refine LoopK.mk ⟨i + 1, junk ++ [VObj.obj [vi (loadAt h l i).lo, vi (loadAt h l i).hi]]⟩ (by simp only; omega) ⟨by simp only; omega, by simp only; rw [f2, hlo]; simp; omega⟩ ⟨rfl, rfl, rfl, ?_, rfl, rfl, rfl, trivial⟩ rfl
        rw [f1, decide_eq_true (by omega), Bool.and_true]; rfl
  · have k2 : ((i : Int) < (h.bears.length : Int)) = False := eq_false (by omega)
    obtain rfl : i = h.bears.length := by omega
    simp (maxSteps := 1000000) only [VL, VM, ↓Gd_none, ↓Gd_t, ↓Gd_f, reduceIte, reduceCtorEq, Int.reduceLE, Int.reduceLT, Int.reduceToNat, Int.reduceNeg, Nat.reduceLT, Nat.reduceEqDiff, Nat.reduceAdd, Nat.reduceSub, Nat.reduceMul, Nat.reduceLeDiff, k2]
    ((repeat refine W_seq ?_); refine W_cond (b := false) (by first | rfl | simp only [ev, get_cons, Nat.reduceEqDiff, if_true, if_false, reduceIte]) (fun h => by cases h) (fun _ => ?_))
    ((repeat refine W_seq ?_); refine W_exit ?_)
    simp (maxSteps := 1000000) only [VL, VM, ↓Gd_none, ↓Gd_t, ↓Gd_f, reduceIte, reduceCtorEq, Int.reduceLE, Int.reduceLT, Int.reduceToNat, Int.reduceNeg, Nat.reduceLT, Nat.reduceEqDiff, Nat.reduceAdd, Nat.reduceSub, Nat.reduceMul, Nat.reduceLeDiff]
    ((repeat refine W_seq ?_); refine W_region0 T_ok ?_)
    simp (maxSteps := 1000000) only [VL, VM, ↓Gd_none, ↓Gd_t, ↓Gd_f, reduceIte, reduceCtorEq, Int.reduceLE, Int.reduceLT, Int.reduceToNat, Int.reduceNeg, Nat.reduceLT, Nat.reduceEqDiff, Nat.reduceAdd, Nat.reduceSub, Nat.reduceMul, Nat.reduceLeDiff]
    (repeat refine W_seq ?_)
    refine W_ret ?_
    try simp only [thenQ, blockQ]
    refine own_ret1 rfl ?_ (by rfl)
    simp only [get_cons, frz, vtup, Nat.reduceEqDiff, if_true, if_false, reduceIte]
    rw [verdictOf, hlo]; rfl
end Go.Proofs.Ytijcmgfblpokhaa.Vm

/- Functions that a closed run takes by their contracts. (Vm) -/
namespace Go.Proofs.Ytijcmgfblpokhaa.Vm
open Go Go.Proofs
def mapO {α β : Type} (f : α → Option β) : List α → Option (List β)
  | [] => some []
  | x :: xs => match f x, mapO f xs with
    | some y, some ys => some (y :: ys)
    | _, _ => none
def unInt : List PV → Option Int
  | [.int .i64 n] => some n
  | _ => none
def unPl : List PV → Option Pl
  | [.int .i64 x, .int .i64 y] => some ⟨x, y⟩
  | _ => none
def unPu : List PV → Option Pu
  | [.int .i64 x, .int .i64 y, .int .i64 k] => some ⟨⟨x, y⟩, k⟩
  | _ => none
def unKi : List PV → Option Ki
  | [.int .i64 lo, .int .i64 hi, .bool w, .sl 1 aw, .int .i64 r, .int .i64 m] => match mapO unInt aw with
    | some a => some ⟨lo, hi, w, a, r, m⟩
    | none => none
  | _ => none
def unHall : VV → Option Ha
  | .agg [.p (.int .i64 w), .p (.int .i64 d), .p (.sl 2 wa), .p (.sl 2 sh), .p (.int .i64 bx), .p (.int .i64 by_), .p (.sl 1 be), .p (.sl 6 ks)] => match mapO unPl wa, mapO unPl sh, mapO unInt be, mapO unKi ks with
    | some wa, some sh, some be, some ks => some ⟨w, d, wa, sh, ⟨bx, by_⟩, be, ks⟩
    | _, _, _, _ => none
  | _ => none
def unPus : VV → Option (List Pu)
  | .p (.sl 3 l) => mapO unPu l
  | _ => none
theorem mapO_ok {α β : Type} {f : α → Option β} {g : β → α} (h : ∀ x y, f x = some y → x = g y) : ∀ {l : List α} {l' : List β}, mapO f l = some l' → l = l'.map g
  | [], l', e => by cases e; rfl
  | x :: xs, l', e => by
    simp only [mapO] at e
    split at e
    · rename_i y ys h1 h2
      cases e
      rw [h x y h1, mapO_ok h h2]; rfl
    · cases e
theorem unInt_ok (x : List PV) (y : Int) (e : unInt x = some y) : x = intP y := by
  unfold unInt at e
  split at e <;> cases e
  rfl
theorem unPl_ok (x : List PV) (y : Pl) (e : unPl x = some y) : x = plP y := by
  unfold unPl at e
  split at e <;> cases e
  rfl
theorem unPu_ok (x : List PV) (y : Pu) (e : unPu x = some y) : x = puP y := by
  unfold unPu at e
  split at e <;> cases e
  rfl
theorem unKi_ok (x : List PV) (y : Ki) (e : unKi x = some y) : x = kiP y := by
  unfold unKi at e
  split at e
  · split at e
    · rename_i a ha
      cases e
      rw [mapO_ok unInt_ok ha]
    · cases e
  · cases e
theorem unHall_ok {v : VV} {h : Ha} (e : unHall v = some h) : v = hallV h := by
  unfold unHall at e
  split at e
  · split at e
    · rename_i h1 h2 h3 h4
      cases e
      rw [mapO_ok unPl_ok h1, mapO_ok unPl_ok h2, mapO_ok unInt_ok h3, mapO_ok unKi_ok h4]
    · cases e
  · cases e
theorem unPus_ok {v : VV} {l : List Pu} (e : unPus v = some l) : v = pusV l := by
  unfold unPus at e
  split at e
  · rw [mapO_ok unPu_ok e]
  · cases e
def finB (h : Ha) : Bool := Nat.ble h.water.length 1000000 && Nat.ble h.shut.length 1000000 && Nat.ble h.bears.length 1000000 && Nat.ble h.kinds.length 1000000 && h.kinds.all fun k => Nat.ble k.away.length 1000000
theorem finB_ok {h : Ha} (e : finB h = true) : Fin h := by
  simp only [finB, Bool.and_eq_true, Nat.ble_eq, List.all_eq_true] at e
  exact ⟨e.1.1.1.1, e.1.1.1.2, e.1.1.2, e.1.2, e.2⟩
def goodB (h : Ha) (o : Pu) : Bool := isPl h o.pl && isKind h o.kind
def prim0 : CallT := fun f args M =>
  bif Nat.beq f 36 then (match args with
    | [a] => match unHall a with
      | some h => bif finB h then some (vi (hallErr h), M) else none
      | none => none
    | _ => none)
  else bif Nat.beq f 68 then (match args with
    | [a, b] => match unHall a, unPus b with
      | some h, some l => bif decide (hallErr h = 0) && Nat.ble l.length 1000000 then some (vi (layErr h l), M) else none
      | _, _ => none
    | _ => none)
  else bif Nat.beq f 69 then (match args with
    | [a, b] => match unHall a, unPus b with
      | some h, some l => bif decide (hallErr h = 0) && Nat.ble l.length 500 && l.all (goodB h) then some (vi (verdictOf h l), M) else none
      | _, _ => none
    | _ => none)
  else none
theorem prim0_ok (f : Nat) (args : List VV) (M : Mem) (r : VV) (M' : Mem) (e : prim0 f args M = some (r, M')) : VC Try.prog f args M (eqQ r M') := by
  unfold prim0 at e
  cases h1 : Nat.beq f 36 with
  | true =>
    have := Nat.eq_of_beq_eq_true h1
    subst this
    rw [h1] at e
    simp only [cond_true] at e
    split at e
    · rename_i a
      split at e
      · rename_i h hh
        cases hf : finB h with
        | false => rw [hf] at e; cases e
        | true =>
          rw [hf] at e
          cases e
          rw [unHall_ok hh]
          exact (check_vm h M (finB_ok hf)).mono fun r M' ⟨q1, q2⟩ => ⟨q2, q1⟩
      · cases e
    · cases e
  | false =>
  rw [h1] at e
  simp only [cond_false] at e
  cases h2 : Nat.beq f 68 with
  | true =>
    have := Nat.eq_of_beq_eq_true h2
    subst this
    rw [h2] at e
    simp only [cond_true] at e
    split at e
    · rename_i a b
      split at e
      · rename_i h l hh hl
        cases hf : decide (hallErr h = 0) && Nat.ble l.length 1000000 with
        | false => rw [hf] at e; cases e
        | true =>
          rw [hf] at e
          cases e
          rw [Bool.and_eq_true, Nat.ble_eq, decide_eq_true_eq] at hf
          rw [unHall_ok hh, unPus_ok hl]
          exact (checklayout_vm h l M (VH.of hf.1) hf.2).mono fun r M' ⟨q1, q2⟩ => ⟨q2, q1⟩
      · cases e
    · cases e
  | false =>
  rw [h2] at e
  simp only [cond_false] at e
  cases h3 : Nat.beq f 69 with
  | true =>
    have := Nat.eq_of_beq_eq_true h3
    subst this
    rw [h3] at e
    simp only [cond_true] at e
    split at e
    · rename_i a b
      split at e
      · rename_i h l hh hl
        cases hf : decide (hallErr h = 0) && Nat.ble l.length 500 && l.all (goodB h) with
        | false => rw [hf] at e; cases e
        | true =>
          rw [hf] at e
          cases e
          rw [Bool.and_eq_true, Bool.and_eq_true, Nat.ble_eq, decide_eq_true_eq, List.all_eq_true] at hf
          rw [unHall_ok hh, unPus_ok hl]
          refine (bears_vm h l M (VH.of hf.1.1) (fun o ho => ?_) hf.1.2).mono fun r M' ⟨q1, q2⟩ => ⟨q2, q1⟩
          have := hf.2 o ho
          rw [goodB, Bool.and_eq_true] at this
          exact this
      · cases e
    · cases e
  | false => rw [h3] at e; cases e
end Go.Proofs.Ytijcmgfblpokhaa.Vm
