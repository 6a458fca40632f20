/- A part of the proofs about the chapter of the vaults; it states no condition of its own. -/
import Derived.Test.YtnjgdlmddlinaaaDoorB14
import Derived.Test.YtnjgdlmddlinaaaDoorB15
import Derived.Test.YtnjgdlmddlinaaaDoorB18
set_option linter.unusedVariables false
set_option linter.unusedSimpArgs false
open Int renaming reduceLE → zA, reduceLT → zB, reduceToNat → zC, reduceNeg → zD
open Nat renaming reduceLT → zE, reduceEqDiff → zF, reduceAdd → zG, reduceSub → zH, reduceMul → zI, reduceLeDiff → zJ
/- The program's check of layouts, on values, part 3. (Vm) -/
namespace Go.Proofs.YtnjgdlmddlinaaaDoor.Vm
open Go Go.Proofs
structure LaySt where
 i : Nat
 x : VV
 a : VV
 b : VV
 c : VV
 junk : List VObj
structure OverSt where
 i : Nat
 es : List (List Int × VV)
 junk : List VObj
theorem checklayout_vm (h : Ha) (l : List Pu) (M : Mem) (V : VH h) (hl : l.length ≤ 1000000) : VC Tryd.prog 26 [hallV h, pusV l] M (fun r M' => M' = M ∧ r = vi (layErr h l)) := by
 refine VC_own' T_ok (f := 26) (fn := Tryd.f26) (by kernel_rfl) rfl Tryd.ntmps26 (by rfl) (by rfl) ?_
 ((repeat refine Ws ?_);refine Wr ?_)
 simp (maxSteps := 1000000) only [VL,VM,↓VG,reduceIte,reduceCtorEq,zA,zB,zC,zD,zE,zF,zG,zH,zI,zJ]
 ((repeat refine Ws ?_);refine Wr ?_)
 rcases Nat.lt_or_ge 24 l.length with h24 | h24
 ·have k0 : ((24 : Int) < (l.length : Int)) = True := eq_true (by omega)
  simp (maxSteps := 1000000) only [VL,VM,↓VG,reduceIte,reduceCtorEq,zA,zB,zC,zD,zE,zF,zG,zH,zI,zJ, k0]
  ((repeat refine Ws ?_);refine Wt (by first|rfl|simp only [EV,zF,reduceIte]) ?_)
  ((repeat refine Ws ?_);refine Wr ?_)
  simp (maxSteps := 1000000) only [VL,VM,↓VG,reduceIte,reduceCtorEq,zA,zB,zC,zD,zE,zF,zG,zH,zI,zJ]
  (repeat refine Ws ?_)
  refine W_ret ?_
  try simp only [thenQ, blockQ]
  refine own_ret1 rfl ?_ (by rfl)
  simp only [get_cons, frz, vtup, Nat.reduceEqDiff, if_true, if_false, reduceIte]
  simp [layErr, h24]
 have k0 : ((24 : Int) < (l.length : Int)) = False := eq_false (by omega)
 simp (maxSteps := 1000000) only [VL,VM,↓VG,reduceIte,reduceCtorEq,zA,zB,zC,zD,zE,zF,zG,zH,zI,zJ, k0]
 ((repeat refine Ws ?_);refine Wf (by first|rfl|simp only [EV,zF,reduceIte]) ?_)
 ((repeat refine Ws ?_);refine W_skip ?_)
 simp (maxSteps := 1000000) only [VL,VM,↓VG,reduceIte,reduceCtorEq,zA,zB,zC,zD,zE,zF,zG,zH,zI,zJ]
 ((repeat refine Ws ?_);refine Wr ?_)
 simp (maxSteps := 1000000) only [VL,VM,↓VG,reduceIte,reduceCtorEq,zA,zB,zC,zD,zE,zF,zG,zH,zI,zJ]
 ((repeat refine Ws ?_);refine Wr ?_)
 simp (maxSteps := 1000000) only [VL,VM,↓VG,reduceIte,reduceCtorEq,zA,zB,zC,zD,zE,zF,zG,zH,zI,zJ]
 ((repeat refine Ws ?_);refine Wr ?_)
 simp (maxSteps := 1000000) only [VL,VM,↓VG,reduceIte,reduceCtorEq,zA,zB,zC,zD,zE,zF,zG,zH,zI,zJ]
 ((repeat refine Ws ?_);refine W_block ?_; (repeat refine Ws ?_)); refine W_loopS (fun s : LaySt => [(0, hallV h), (1, pusV l), (2, VV.ptr M.H.length 0), (5, VV.ptr (M.H.length + 1) 0), (6, .sv 1 (rulesL (M.H.length + 1))), (34, pusV l), (35, vi l.length), (36, vi s.i)]) (fun s => ⟨M.H ++ (VObj.obj (hallC h) :: VObj.obj [vi h.wide, vi h.deep, plsV h.water, plsV h.shut, vi h.bay.x, vi h.bay.y, intsV h.bears, kisV h.kinds, s.x, s.a, s.b, s.c] :: s.junk), M.lg⟩) (fun s => l.length - s.i) (fun s => s.i ≤ l.length ∧ firstErr (putErrAt h l) s.i = 0) ⟨0, _, _, _, _, []⟩ ⟨Nat.zero_le _, rfl⟩ ⟨rfl, rfl, rfl, rfl, rfl, rfl, rfl, rfl, trivial⟩ rfl ?_
 ·rintro ⟨i, x, a, b, c, junk⟩ ⟨hi, hno⟩
  simp only at hi hno
  have k1 : -9223372036854775808 ≤ (i : Int) + 1 ∧ (i : Int) + 1 < 9223372036854775808 := by omega
  ((repeat refine Ws ?_);refine Wr ?_)
  rcases Nat.lt_or_ge i l.length with hlt | hge
  ·have k2 : ((i : Int) < (l.length : Int)) = True := eq_true (by omega)
   have hx : l[i]? = some l[i] := List.getElem?_eq_getElem hlt
   have hx' := map_at (f := puP) hx
   generalize hc : l[i] = p at hx hx'
   have hpe : putErrAt h l i = putErr h (l.take i) p := by simp [putErrAt, hx]
   simp (maxSteps := 1000000) only [VL,VM,↓VG,reduceIte,reduceCtorEq,zA,zB,zC,zD,zE,zF,zG,zH,zI,zJ, k2]
   ((repeat refine Ws ?_);refine Wt (by first|rfl|simp only [EV,zF,reduceIte]) ?_)
   ((repeat refine Ws ?_);refine W_skip ?_)
   simp (maxSteps := 1000000) only [VL,VM,↓VG,reduceIte,reduceCtorEq,zA,zB,zC,zD,zE,zF,zG,zH,zI,zJ]
   ((repeat refine Ws ?_);refine W_block ?_)
   ((repeat refine Ws ?_);refine Wr ?_)
   simp (maxSteps := 1000000) only [VL,VM,↓VG,reduceIte,reduceCtorEq,zA,zB,zC,zD,zE,zF,zG,zH,zI,zJ, hx']
   (repeat refine Ws ?_)
   refine W_drawP T_ok [] (by kernel_rfl) (by kernel_rfl) ?_
   generalize hi : mkPlan _ = infs
   cbv at hi
   subst hi
   simp (maxSteps := 1000000) only [VL,VM,↓VG,reduceIte,reduceCtorEq,zA,zB,zC,zD,zE,zF,zG,zH,zI,zJ, hi]
   ((repeat refine Ws ?_);refine Wr ?_)
   simp (maxSteps := 1000000) only [VL,VM,↓VG,reduceIte,reduceCtorEq,zA,zB,zC,zD,zE,zF,zG,zH,zI,zJ]
   ((repeat refine Ws ?_);refine W_block ?_; (repeat refine Ws ?_)); refine W_loopS (fun j : Nat => [(0, hallV h), (1, pusV l), (2, VV.ptr M.H.length 0), (5, VV.ptr (M.H.length + 1) 0), (6, .sv 1 (rulesL (M.H.length + 1))), (34, pusV l), (35, vi l.length), (36, vi i), (51, .sv 1 (rulesL (M.H.length + 1))), (52, vi (rulesL (M.H.length + 1)).length), (53, vi j)]) (fun _ => ⟨M.H ++ (VObj.obj (hallC h) :: VObj.obj (layC h (l.take i) p) :: (junk ++ [VObj.obj [vi p.pl.x, vi p.pl.y, vi p.kind]])), M.lg⟩) (fun j => 6 - j) (fun j => j ≤ 6 ∧ ∀ r, r < j → ruleErr h (l.take i) p r = 0) 0 ⟨by omega, fun r hr => absurd hr (by omega)⟩ ⟨rfl, rfl, rfl, rfl, rfl, rfl, rfl, rfl, rfl, rfl, rfl, trivial⟩ rfl ?_
   rintro j ⟨hj, hr⟩
   have j1 : -9223372036854775808 ≤ (j : Int) + 1 ∧ (j : Int) + 1 < 9223372036854775808 := by omega
   have j0 : (rulesL (M.H.length + 1)).length = 6 := rfl
   ((repeat refine Ws ?_);refine Wr ?_)
   rcases Nat.lt_or_ge j 6 with hj6 | hj6
   ·have j2 : ((j : Int) < ((rulesL (M.H.length + 1)).length : Int)) = True := eq_true (by rw [j0]; omega)
    have hy := rulesL_at (M.H.length + 1) j hj6
    simp (maxSteps := 1000000) only [VL,VM,↓VG,reduceIte,reduceCtorEq,zA,zB,zC,zD,zE,zF,zG,zH,zI,zJ, j2]
    ((repeat refine Ws ?_);refine Wt (by first|rfl|simp only [EV,zF,reduceIte]) ?_)
    ((repeat refine Ws ?_);refine W_skip ?_)
    simp (maxSteps := 1000000) only [VL,VM,↓VG,reduceIte,reduceCtorEq,zA,zB,zC,zD,zE,zF,zG,zH,zI,zJ]
    ((repeat refine Ws ?_);refine W_block ?_)
    ((repeat refine Ws ?_);refine Wr ?_)
    simp (maxSteps := 1000000) only [VL,VM,↓VG,reduceIte,reduceCtorEq,zA,zB,zC,zD,zE,zF,zG,zH,zI,zJ, hy]
    ((repeat refine Ws ?_);refine Wr ?_)
    simp (maxSteps := 1000000) only [VL,VM,↓VG,reduceIte,reduceCtorEq,zA,zB,zC,zD,zE,zF,zG,zH,zI,zJ]
    refine (rule_call h (l.take i) p (M.H.length + 1) _ V (good_takes hno hi) (by rw [List.length_take]; omega) (by rw [hget]; rfl) j hj6 hr).mono ?_
    rintro _ _ ⟨rfl, rfl⟩
    simp (maxSteps := 1000000) only [VL,VM,↓VG,reduceIte,reduceCtorEq,zA,zB,zC,zD,zE,zF,zG,zH,zI,zJ]
    ((repeat refine Ws ?_);refine Wr ?_)
    by_cases hz : ruleErr h (l.take i) p j = 0
    ·simp (maxSteps := 1000000) only [VL,VM,↓VG,reduceIte,reduceCtorEq,zA,zB,zC,zD,zE,zF,zG,zH,zI,zJ, hz]
     ((repeat refine Ws ?_);refine Wf (by first|rfl|simp only [EV,zF,reduceIte]) ?_)
     ((repeat refine Ws ?_);refine W_skip ?_)
     simp (maxSteps := 1000000) only [VL,VM,↓VG,reduceIte,reduceCtorEq,zA,zB,zC,zD,zE,zF,zG,zH,zI,zJ]
     ((repeat refine Ws ?_);refine Wr ?_)
     simp (maxSteps := 1000000) only [VL,VM,↓VG,reduceIte,reduceCtorEq,zA,zB,zC,zD,zE,zF,zG,zH,zI,zJ, j1]
     refine LoopK.mk (j + 1) (by omega) ⟨by omega, fun r hr' => ?_⟩ ⟨rfl, rfl, rfl, rfl, rfl, rfl, rfl, rfl, rfl, rfl, rfl, trivial⟩ rfl
     rcases Nat.lt_or_ge r j with h' | h'
     ·exact hr r h'
     ·obtain rfl : r = j := by omega
      exact hz
    ·simp (maxSteps := 1000000) only [VL,VM,↓VG,reduceIte,reduceCtorEq,zA,zB,zC,zD,zE,zF,zG,zH,zI,zJ, hz]
     ((repeat refine Ws ?_);refine Wt (by first|rfl|simp only [EV,zF,reduceIte]) ?_)
     ((repeat refine Ws ?_);refine Wr ?_)
     simp (maxSteps := 1000000) only [VL,VM,↓VG,reduceIte,reduceCtorEq,zA,zB,zC,zD,zE,zF,zG,zH,zI,zJ]
     (repeat refine Ws ?_)
     refine W_ret ?_
     try simp only [thenQ, blockQ]
     refine own_ret1 rfl ?_ (by rfl)
     simp only [get_cons, frz, vtup, Nat.reduceEqDiff, if_true, if_false, reduceIte]
     have hh := rule_hit hj6 hr hz
     have := firstErr_hit hno (by rw [hpe, hh]; exact hz) hlt
     rw [layErr, if_neg (by omega), if_pos (by rw [this, hpe, hh]; exact hz), this, hpe, hh]
   ·have j2 : ((j : Int) < ((rulesL (M.H.length + 1)).length : Int)) = False := eq_false (by rw [j0]; omega)
    obtain rfl : j = 6 := by omega
    simp (maxSteps := 1000000) only [VL,VM,↓VG,reduceIte,reduceCtorEq,zA,zB,zC,zD,zE,zF,zG,zH,zI,zJ, j2]
    ((repeat refine Ws ?_);refine Wf (by first|rfl|simp only [EV,zF,reduceIte]) ?_)
    ((repeat refine Ws ?_);refine W_exit ?_)
    simp (maxSteps := 1000000) only [VL,VM,↓VG,reduceIte,reduceCtorEq,zA,zB,zC,zD,zE,zF,zG,zH,zI,zJ]
    ((repeat refine Ws ?_);refine Wr ?_)
    simp (maxSteps := 1000000) only [VL,VM,↓VG,reduceIte,reduceCtorEq,zA,zB,zC,zD,zE,zF,zG,zH,zI,zJ, k1]
    refine LoopK.mk ⟨i + 1, pusV (l.take i), vi p.pl.x, vi p.pl.y, vi p.kind, junk ++ [VObj.obj [vi p.pl.x, vi p.pl.y, vi p.kind]]⟩ (by simp only; omega) ⟨by simp only; omega, firstErr_step hno (by rw [hpe]; exact rule_ok hr)⟩ ⟨rfl, rfl, rfl, rfl, rfl, rfl, rfl, rfl, trivial⟩ rfl
  ·have k2 : ((i : Int) < (l.length : Int)) = False := eq_false (by omega)
   simp (maxSteps := 1000000) only [VL,VM,↓VG,reduceIte,reduceCtorEq,zA,zB,zC,zD,zE,zF,zG,zH,zI,zJ, k2]
   ((repeat refine Ws ?_);refine Wf (by first|rfl|simp only [EV,zF,reduceIte]) ?_)
   ((repeat refine Ws ?_);refine W_exit ?_)
   simp (maxSteps := 1000000) only [VL,VM,↓VG,reduceIte,reduceCtorEq,zA,zB,zC,zD,zE,zF,zG,zH,zI,zJ]
   obtain rfl : i = l.length := by omega
   have hgood := good_takes hno hi
   rw [List.take_length] at hgood
   have e1 : layErr h l = firstErr (overAt h l) h.kinds.length := by
    rw [layErr, if_neg (by omega), hno]; rfl
   obtain ⟨H0, hH0⟩ : ∃ H0, M.H ++ (VObj.obj (hallC h) :: VObj.obj [vi h.wide, vi h.deep, plsV h.water, plsV h.shut, vi h.bay.x, vi h.bay.y, intsV h.bears, kisV h.kinds, x, a, b, c] :: junk) = H0 := ⟨_, rfl⟩
   have g0 : ∀ L, (H0 ++ L)[M.H.length]? = some (VObj.obj (hallC h)) := fun L => by rw [← hH0]; exact app_get (hget0 _ _) L
   have g00 : H0[M.H.length]? = some (VObj.obj (hallC h)) := by rw [← hH0]; exact hget0 _ _
   rw [hH0]
   ((repeat refine Ws ?_);refine Wr ?_)
   simp (maxSteps := 1000000) only [VL,VM,↓VG,reduceIte,reduceCtorEq,zA,zB,zC,zD,zE,zF,zG,zH,zI,zJ]
   ((repeat refine Ws ?_);refine Wr ?_)
   simp (maxSteps := 1000000) only [VL,VM,↓VG,reduceIte,reduceCtorEq,zA,zB,zC,zD,zE,zF,zG,zH,zI,zJ]
   ((repeat refine Ws ?_);refine W_block ?_; (repeat refine Ws ?_)); refine W_loopS (fun s : OverSt => [(0, hallV h), (1, pusV l), (2, VV.ptr M.H.length 0), (12, VV.mp H0.length), (65, pusV l), (66, vi l.length), (67, vi s.i)]) (fun s => ⟨H0 ++ (VObj.mpo (.int .i64) s.es :: s.junk), M.lg⟩) (fun s => l.length - s.i) (fun s => s.i ≤ l.length ∧ Cnt s.es (l.take s.i) ∧ ∀ q (y : Pu), q < s.i → l[q]? = some y → (cnt (l.take (q + 1)) y.kind : Int) ≤ (kAt h y.kind).most) ⟨0, [], []⟩ ⟨Nat.zero_le _, Cnt.nil, fun q y hq => absurd hq (Nat.not_lt_zero _)⟩ ⟨rfl, rfl, rfl, rfl, rfl, rfl, rfl, trivial⟩ rfl ?_
   rintro ⟨i, es, junk⟩ ⟨hi, hes, hov⟩
   simp only at hi hes hov
   have k1 : -9223372036854775808 ≤ (i : Int) + 1 ∧ (i : Int) + 1 < 9223372036854775808 := by omega
   ((repeat refine Ws ?_);refine Wr ?_)
   rcases Nat.lt_or_ge i l.length with hlt | hge
   ·have k2 : ((i : Int) < (l.length : Int)) = True := eq_true (by omega)
    have hx : l[i]? = some l[i] := List.getElem?_eq_getElem hlt
    have hx' := map_at (f := puP) hx
    have hmem := List.getElem_mem hlt
    generalize hc : l[i] = p at hx hx' hmem
    have gp := hgood p hmem
    obtain ⟨p1, p2, p3, p4, p5, p6⟩ := gp.bounds V
    have kp := map_at (f := kiP) (kAt_some p5 p6)
    simp (maxSteps := 1000000) only [VL,VM,↓VG,reduceIte,reduceCtorEq,zA,zB,zC,zD,zE,zF,zG,zH,zI,zJ, k2]
    ((repeat refine Ws ?_);refine Wt (by first|rfl|simp only [EV,zF,reduceIte]) ?_)
    ((repeat refine Ws ?_);refine W_skip ?_)
    simp (maxSteps := 1000000) only [VL,VM,↓VG,reduceIte,reduceCtorEq,zA,zB,zC,zD,zE,zF,zG,zH,zI,zJ]
    ((repeat refine Ws ?_);refine W_block ?_)
    ((repeat refine Ws ?_);refine Wr ?_)
    simp (maxSteps := 1000000) only [VL,VM,↓VG,reduceIte,reduceCtorEq,zA,zB,zC,zD,zE,zF,zG,zH,zI,zJ, hx']
    have q1 : -9223372036854775808 ≤ (cnt (l.take i) p.kind : Int) + 1 ∧ (cnt (l.take i) p.kind : Int) + 1 < 9223372036854775808 := by
     have := cnt_le (l.take i) p.kind
     rw [List.length_take] at this
     omega
    have q2 : assoc [p.kind] (assocSet [p.kind] (vi (cnt (l.take i) p.kind + 1)) es) = some (vi (cnt (l.take i) p.kind + 1)) := by rw [assoc_set, if_pos rfl]
    have hct : cnt (l.take (i + 1)) p.kind = cnt (l.take i) p.kind + 1 := by
     rw [List.take_add_one, hx, Option.toList, cnt_add, if_pos rfl]
    have hes' := hes.add p
    rw [show l.take i ++ [p] = l.take (i + 1) by rw [List.take_add_one, hx]; rfl] at hes'
    rcases hes p.kind with ⟨z1, z2⟩ | z2
    all_goals
     first
     | (have z0 : (0 : Int) + 1 = (cnt (l.take i) p.kind : Int) + 1 := by rw [z1]; rfl
        ((repeat refine Ws ?_);refine Wr ?_)
        simp (maxSteps := 1000000) only [VL,VM,↓VG,reduceIte,reduceCtorEq,zA,zB,zC,zD,zE,zF,zG,zH,zI,zJ, z2, z0, q1])
     | (((repeat refine Ws ?_);refine Wr ?_)
        simp (maxSteps := 1000000) only [VL,VM,↓VG,reduceIte,reduceCtorEq,zA,zB,zC,zD,zE,zF,zG,zH,zI,zJ, z2, q1])
     (repeat refine Ws ?_)
     refine W_drawP T_ok [] (by kernel_rfl) (by kernel_rfl) ?_
     generalize hi : mkPlan _ = infs
     cbv at hi
     subst hi
     by_cases hv : (kAt h p.kind).most < (cnt (l.take i) p.kind : Int) + 1
     ·simp (maxSteps := 1000000) only [VL,VM,↓VG,reduceIte,reduceCtorEq,zA,zB,zC,zD,zE,zF,zG,zH,zI,zJ, g0, q2, p5, kp, hv]
      ((repeat refine Ws ?_);refine Wt (by first|rfl|simp only [EV,zF,reduceIte]) ?_)
      ((repeat refine Ws ?_);refine Wr ?_)
      simp (maxSteps := 1000000) only [VL,VM,↓VG,reduceIte,reduceCtorEq,zA,zB,zC,zD,zE,zF,zG,zH,zI,zJ]
      rw [← hH0, List.append_assoc]
      (repeat refine Ws ?_)
      refine W_ret ?_
      try simp only [thenQ, blockQ]
      refine own_ret1 rfl ?_ (by rfl)
      simp only [get_cons, frz, vtup, Nat.reduceEqDiff, if_true, if_false, reduceIte]
      rw [e1, over_hit hx gp (by rw [hct]; omega)]
     ·simp (maxSteps := 1000000) only [VL,VM,↓VG,reduceIte,reduceCtorEq,zA,zB,zC,zD,zE,zF,zG,zH,zI,zJ, g0, q2, p5, kp, hv]
      ((repeat refine Ws ?_);refine Wf (by first|rfl|simp only [EV,zF,reduceIte]) ?_)
      ((repeat refine Ws ?_);refine W_skip ?_)
      simp (maxSteps := 1000000) only [VL,VM,↓VG,reduceIte,reduceCtorEq,zA,zB,zC,zD,zE,zF,zG,zH,zI,zJ]
      ((repeat refine Ws ?_);refine Wr ?_)
      simp (maxSteps := 1000000) only [VL,VM,↓VG,reduceIte,reduceCtorEq,zA,zB,zC,zD,zE,zF,zG,zH,zI,zJ, k1]
      refine LoopK.mk ⟨i + 1, assocSet [p.kind] (vi (cnt (l.take i) p.kind + 1)) es, junk ++ [VObj.obj [vi p.pl.x, vi p.pl.y, vi p.kind]]⟩ (by simp only; omega) ⟨by simp only; omega, hes', fun q y hq hy => ?_⟩ ⟨rfl, rfl, rfl, rfl, rfl, rfl, rfl, trivial⟩ rfl
      rcases Nat.lt_or_ge q i with h' | h'
      ·exact hov q y h' hy
      ·obtain rfl : q = i := by simp only at hq; omega
       rw [hx] at hy
       cases hy
       rw [hct]
       exact Int.not_lt.1 hv
   ·have k2 : ((i : Int) < (l.length : Int)) = False := eq_false (by omega)
    simp (maxSteps := 1000000) only [VL,VM,↓VG,reduceIte,reduceCtorEq,zA,zB,zC,zD,zE,zF,zG,zH,zI,zJ, k2]
    ((repeat refine Ws ?_);refine Wf (by first|rfl|simp only [EV,zF,reduceIte]) ?_)
    ((repeat refine Ws ?_);refine W_exit ?_)
    simp (maxSteps := 1000000) only [VL,VM,↓VG,reduceIte,reduceCtorEq,zA,zB,zC,zD,zE,zF,zG,zH,zI,zJ]
    ((repeat refine Ws ?_);refine Wr ?_)
    simp (maxSteps := 1000000) only [VL,VM,↓VG,reduceIte,reduceCtorEq,zA,zB,zC,zD,zE,zF,zG,zH,zI,zJ]
    rw [← hH0, List.append_assoc]
    (repeat refine Ws ?_)
    refine W_ret ?_
    try simp only [thenQ, blockQ]
    refine own_ret1 rfl ?_ (by rfl)
    simp only [get_cons, frz, vtup, Nat.reduceEqDiff, if_true, if_false, reduceIte]
    rw [e1, over_none V (fun q y hy => hov q y (by have := (List.getElem?_eq_some_iff.1 hy).1; omega) hy)]
end Go.Proofs.YtnjgdlmddlinaaaDoor.Vm

/- What the chapter's functions compute, in plain Lean, part 2: no program in sight. -/
namespace Go.Proofs.YtnjgdlmddlinaaaDoor
open Go.RowKit
theorem kAt_get {h : Ha} {n : Nat} (hn : n < h.kinds.length) : kAt h (n : Int) = h.kinds[n] := by simp [kAt, hn]
theorem good_take {h : Ha} {l : List Pu} {k : Nat} (e : firstErr (putErrAt h l) k = 0) (hk : k ≤ l.length) : ∀ o ∈ l.take k, GoodP h o := by
 intro o ho
 obtain ⟨i, hi, rfl⟩ := List.getElem_of_mem ho
 have hi' : i < k := by simp at hi; omega
 have := firstErr_zero.1 e i hi'
 simp only [putErrAt, show l[i]? = some l[i] from List.getElem?_eq_getElem (by omega)] at this
 rw [List.getElem_take]
 exact GoodP.of this
def rentOf (h : Ha) (l : List Pu) : Int := (l.map fun p => (kAt h p.kind).rent).sum
def rowOf (y : Nat) (n : Nat) : List Pl := (List.range n).map fun x : Nat => ⟨(x : Int), (y : Int)⟩
def rowsOf (n : Nat) (wd : Nat) : List Pl := (List.range n).flatMap fun y => rowOf y wd
def placesL (h : Ha) : List Pl := rowsOf h.deep.toNat h.wide.toNat
theorem rowsOf_succ (n wd : Nat) : rowsOf (n + 1) wd = rowsOf n wd ++ rowOf n wd := by simp [rowsOf, List.range_succ]
theorem rowsOf_len (n wd : Nat) : (rowsOf n wd).length = n * wd := by
 induction n with
 | zero => simp [rowsOf]
 | succ n ih => rw [rowsOf_succ, List.length_append, ih]; simp [rowOf, Nat.add_mul]
theorem lay_len {h : Ha} {l : List Pu} (e : layErr h l = 0) : l.length ≤ 24 := by
 unfold layErr at e
 by_cases h1 : 24 < l.length
 ·rw [if_pos h1] at e; exact absurd e (by decide)
 ·omega
theorem lay_puts {h : Ha} {l : List Pu} (e : layErr h l = 0) : firstErr (putErrAt h l) l.length = 0 := by
 have h1 := lay_len e
 unfold layErr at e
 rw [if_neg (by omega)] at e
 by_cases h2 : firstErr (putErrAt h l) l.length = 0
 ·exact h2
 ·rw [if_pos h2] at e; exact absurd e h2
theorem lay_good {h : Ha} {l : List Pu} (e : layErr h l = 0) : ∀ o ∈ l, GoodP h o := by
 have := good_take (lay_puts e) (Nat.le_refl _)
 rwa [List.take_of_length_le (Nat.le_refl _)] at this
theorem layout_ok {h : Ha} {l : List Pu} : layoutErr h l = 0 ↔ hallErr h = 0 ∧ layErr h l = 0 := by
 unfold layoutErr
 by_cases h1 : hallErr h = 0 <;> simp [h1]
def loadAt (h : Ha) (l : List Pu) (b : Nat) : Sp :=
 ⟨((l.filter fun p => bayOf h p.pl = (b : Int)).map fun p => (kAt h p.kind).lo).sum, ((l.filter fun p => bayOf h p.pl = (b : Int)).map fun p => (kAt h p.kind).hi).sum⟩
def loadsOf (h : Ha) (l : List Pu) : List Sp := (List.range (baysOf h).toNat).map (loadAt h l)
theorem ediv_mono {a b c : Int} (hc : 1 ≤ c) (h : a ≤ b) : a / c ≤ b / c := Int.ediv_le_ediv (by omega) h
theorem bay_in {h : Ha} {c : Pl} (V : VH h) (e : isPl h c = true) : 0 ≤ bayOf h c ∧ bayOf h c < baysOf h := by
 simp only [isPl, Bool.and_eq_true, inR_true] at e
 have hx := V.x1
 have hy := V.y1
 rw [← bays_eq hx hy]
 have h1 := ediv_mono hx (show c.x ≤ h.wide - 1 by omega)
 have h2 := ediv_mono hy (show c.y ≤ h.deep - 1 by omega)
 have h3 : 0 ≤ colsOf h := (cols_le V.small).1
 have h4 := Int.mul_le_mul_of_nonneg_right h2 h3
 have h5 := Int.mul_nonneg (div_le (show 0 ≤ c.y by omega) hy).1 h3
 have h6 := (div_le (show 0 ≤ c.x by omega) hx).1
 unfold bayOf
 simp only []
 omega
theorem bays_pos {h : Ha} (V : VH h) : 1 ≤ baysOf h ∧ baysOf h ≤ 5000000 := by
 have hx := V.x1
 have hy := V.y1
 rw [← bays_eq hx hy]
 have hc := cols_le V.small
 have hd := div_le (show 0 ≤ h.deep - 1 by have := V.d1; omega) hy
 have he := div_le (show 0 ≤ h.wide - 1 by have := V.w1; omega) hx
 have := V.d2
 have := V.w2
 have hm := mul_le hd.1 hc.1 (show (h.deep - 1) / h.bay.y ≤ 1000 by omega) hc.2
 unfold bayOf colsOf
 simp only []
 omega
theorem loadAt_snoc (h : Ha) (l : List Pu) (p : Pu) (b : Nat) : loadAt h (l ++ [p]) b = if bayOf h p.pl = (b : Int) then ⟨(loadAt h l b).lo + (kAt h p.kind).lo, (loadAt h l b).hi + (kAt h p.kind).hi⟩ else loadAt h l b := by
 unfold loadAt
 rw [List.filter_append]
 by_cases hb : bayOf h p.pl = (b : Int) <;> simp [hb]
theorem loadsOf_snoc (h : Ha) (l : List Pu) (p : Pu) (k : Nat) (hk : bayOf h p.pl = (k : Int)) :
  loadsOf h (l ++ [p]) = (loadsOf h l).set k ⟨(loadAt h l k).lo + (kAt h p.kind).lo, (loadAt h l k).hi + (kAt h p.kind).hi⟩ := by
 apply List.ext_getElem
 ·simp [loadsOf]
 ·intro i h1 h2
  rw [List.getElem_set]
  simp only [loadsOf, List.getElem_map, List.getElem_range, loadAt_snoc]
  by_cases h : k = i
  ·subst h; simp [hk]
  ·rw [if_neg (by omega), if_neg h]
theorem loadAt_le {h : Ha} {l : List Pu} (V : VH h) (hg : ∀ o ∈ l, GoodP h o) (b : Nat) : 0 ≤ (loadAt h l b).lo ∧ (loadAt h l b).lo ≤ 1000000 * l.length ∧ 0 ≤ (loadAt h l b).hi ∧ (loadAt h l b).hi ≤ 1000000 * l.length := by
 induction l with
 | nil => simp [loadAt]
 | cons p l ih =>
  have ih := ih fun o ho => hg o (List.mem_cons_of_mem _ ho)
  have hp := (hg p (List.mem_cons_self ..)).bounds V
  obtain ⟨k, hk⟩ := Int.eq_ofNat_of_zero_le hp.2.2.2.2.1
  have hk' : k < h.kinds.length := by omega
  have hv := V.kind _ (List.getElem_mem hk')
  have e : kAt h p.kind = h.kinds[k] := by rw [hk]; exact kAt_get hk'
  have := hv.lo0
  have := hv.loHi
  have := hv.hi1
  simp only [loadAt, List.filter_cons] at ih ⊢
  split <;> simp [e] <;> omega
def puLt (x y : Pu) : Bool := if x.pl.y ≠ y.pl.y then decide (x.pl.y < y.pl.y) else if x.pl.x ≠ y.pl.x then decide (x.pl.x < y.pl.x) else decide (x.kind < y.kind)
def firstB : List Pu → List Pu → Bool
 | x :: xs, y :: ys => if x = y then firstB xs ys else puLt x y
 | _, _ => false
def fitsHi (h : Ha) (l : List Pu) (k : Nat) : Bool := (List.range k).all fun i => decide ((loadAt h l i).hi ≤ h.bears.getD i 0)
def fitsLo (h : Ha) (l : List Pu) (k : Nat) : Bool := (List.range k).all fun i => decide ((loadAt h l i).lo ≤ h.bears.getD i 0)
theorem fitsHi_step (h : Ha) (l : List Pu) (k : Nat) : fitsHi h l (k + 1) = (fitsHi h l k && decide ((loadAt h l k).hi ≤ h.bears.getD k 0)) := by
 simp [fitsHi, List.range_succ]
theorem fitsLo_step (h : Ha) (l : List Pu) (k : Nat) : fitsLo h l (k + 1) = (fitsLo h l k && decide ((loadAt h l k).lo ≤ h.bears.getD k 0)) := by
 simp [fitsLo, List.range_succ]
def verdictOf (h : Ha) (l : List Pu) : Int := if fitsHi h l h.bears.length then 1 else if fitsLo h l h.bears.length then 3 else 2
def bearsOut (h : Ha) (l : List Pu) : Int := if layoutErr h l = 0 then verdictOf h l else 0
def allowedB (h : Ha) (l : List Pu) : Bool := decide (layErr h l = 0) && decide (verdictOf h l = 1)
theorem loadAt_lohi {h : Ha} {l : List Pu} (V : VH h) (hg : ∀ o ∈ l, GoodP h o) (b : Nat) : (loadAt h l b).lo ≤ (loadAt h l b).hi := by
 induction l with
 | nil => simp [loadAt]
 | cons p l ih =>
  have ih := ih fun o ho => hg o (List.mem_cons_of_mem _ ho)
  have hp := (hg p (List.mem_cons_self ..)).bounds V
  obtain ⟨k, hk⟩ := Int.eq_ofNat_of_zero_le hp.2.2.2.2.1
  have hk' : k < h.kinds.length := by omega
  have hv := V.kind _ (List.getElem_mem hk')
  have e : kAt h p.kind = h.kinds[k] := by rw [hk]; exact kAt_get hk'
  have := hv.loHi
  simp only [loadAt, List.filter_cons] at ih ⊢
  split <;> simp [e] <;> omega
end Go.Proofs.YtnjgdlmddlinaaaDoor

/- The cells of spans. (Vm) -/
namespace Go.Proofs.YtnjgdlmddlinaaaDoor.Vm
open Go Go.Proofs
def spCs (l : List Sp) : List VV := l.flatMap fun s => [vi s.lo, vi s.hi]
theorem spCs_len (l : List Sp) : (spCs l).length = l.length * 2 := by
 induction l with
 | nil => rfl
 | cons s l ih => simp only [spCs, List.flatMap_cons, List.length_append, List.length_cons, List.length_nil] at ih ⊢; omega
theorem spCs_drop (l : List Sp) (k : Nat) : (spCs l).drop (k * 2) = spCs (l.drop k) := by
 induction l generalizing k with
 | nil => simp [spCs]
 | cons s l ih =>
  cases k with
  | zero => rfl
  | succ k =>
   have := ih k
   rw [show (k + 1) * 2 = k * 2 + 2 by omega]
   simpa [spCs] using this
theorem spCs_take (l : List Sp) (k : Nat) : (spCs l).take (k * 2) = spCs (l.take k) := by
 induction l generalizing k with
 | nil => simp [spCs]
 | cons s l ih =>
  cases k with
  | zero => rfl
  | succ k =>
   have := ih k
   rw [show (k + 1) * 2 = k * 2 + 2 by omega]
   simpa [spCs] using this
theorem spCs_at {l : List Sp} {k : Nat} {x : Sp} (h : l[k]? = some x) : ((spCs l).drop (k * 2)).take 2 = [vi x.lo, vi x.hi] := by
 rw [spCs_drop]
 have hk := (List.getElem?_eq_some_iff.1 h).1
 rw [List.drop_eq_getElem_cons hk]
 have : l[k] = x := (List.getElem?_eq_some_iff.1 h).2
 simp [spCs, this]
theorem spCs_set {l : List Sp} {k : Nat} (x : Sp) (h : k < l.length) : (spCs l).take (k * 2) ++ vi x.lo :: vi x.hi :: (spCs l).drop (k * 2 + 2) = spCs (l.set k x) := by
 rw [show k * 2 + 2 = (k + 1) * 2 by omega, spCs_take, spCs_drop, List.set_eq_take_append_cons_drop, if_pos h]
 simp [spCs]
theorem spCs_rep (n : Nat) : (List.replicate n [vi 0, vi 0]).flatten = spCs (List.replicate n ⟨0, 0⟩) := by
 induction n with
 | zero => rfl
 | succ n ih => rw [List.replicate_succ, List.replicate_succ, List.flatten_cons, ih]; rfl
theorem spCs_chunks (l : List Sp) : ∀ (m : Nat) (k : Nat), k + m = l.length → toPss (chunksOf (spCs l) 2 (k * 2) m) = some ((l.drop k).map spP)
 | 0, k, h => by simp [chunksOf, toPss, List.drop_of_length_le (show l.length ≤ k by omega)]
 | m + 1, k, h => by
  have hk : k < l.length := by omega
  have ih := spCs_chunks l m (k + 1) (by omega)
  rw [show (k + 1) * 2 = k * 2 + 2 by omega] at ih
  rw [chunksOf, toPss, ih, spCs_at (List.getElem?_eq_getElem hk), List.drop_eq_getElem_cons hk]
  rfl
theorem frz_spans {n0 : Nat} {H : List VObj} {id : Nat} {l : List Sp} (hid : n0 ≤ id) (h : H[id]? = some (.obj (spCs l))) : frz n0 H (.bf id 0 l.length 2) = spsV l := by
 have h0 : Nat.ble n0 id = true := by rw [Nat.ble_eq]; exact hid
 have h1 : Nat.ble (0 + l.length * 2) (spCs l).length = true := by rw [Nat.ble_eq, spCs_len]; omega
 have h2 := spCs_chunks l l.length 0 (by omega)
 rw [Nat.zero_mul] at h2
 simp only [frz, h0, h, h1, h2, cond_true, List.drop_zero]
end Go.Proofs.YtnjgdlmddlinaaaDoor.Vm

/- The program's loads of bays, on values. (Vm) -/
namespace Go.Proofs.YtnjgdlmddlinaaaDoor.Vm
open Go Go.Proofs
def sumS (l : List Sp) : Sp := ⟨(l.map Sp.lo).sum, (l.map Sp.hi).sum⟩
theorem sumS_take {l : List Sp} {i : Nat} {x : Sp} (h : l[i]? = some x) : sumS (l.take (i + 1)) = ⟨(sumS (l.take i)).lo + x.lo, (sumS (l.take i)).hi + x.hi⟩ := by
 rw [List.take_add_one, h]
 simp [sumS, Option.toList]
theorem sumS_le {l : List Sp} (h : ∀ x ∈ l, 0 ≤ x.lo ∧ x.lo ≤ 1000000000 ∧ 0 ≤ x.hi ∧ x.hi ≤ 1000000000) : 0 ≤ (sumS l).lo ∧ (sumS l).lo ≤ 1000000000 * l.length ∧ 0 ≤ (sumS l).hi ∧ (sumS l).hi ≤ 1000000000 * l.length := by
 induction l with
 | nil => simp [sumS]
 | cons x l ih =>
  have ih := ih fun y hy => h y (List.mem_cons_of_mem _ hy)
  have hx := h x (List.mem_cons_self ..)
  simp only [sumS, List.map_cons, List.sum_cons, List.length_cons] at ih ⊢
  omega
theorem sum_vm (l : List Sp) (M : Mem) (hl : l.length ≤ 1000) (hb : ∀ x ∈ l, 0 ≤ x.lo ∧ x.lo ≤ 1000000000 ∧ 0 ≤ x.hi ∧ x.hi ≤ 1000000000) : VC Tryd.prog 54 [spsV l] M (fun r M' => M' = M ∧ r = spV (sumS l)) := by
 refine VC_own' T_ok (f := 54) (fn := Tryd.f54) (by kernel_rfl) rfl Tryd.ntmps54 (by rfl) (by rfl) ?_
 ((repeat refine Ws ?_);refine Wr ?_)
 simp (maxSteps := 1000000) only [VL,VM,↓VG,reduceIte,reduceCtorEq,zA,zB,zC,zD,zE,zF,zG,zH,zI,zJ]
 ((repeat refine Ws ?_);refine Wr ?_)
 simp (maxSteps := 1000000) only [VL,VM,↓VG,reduceIte,reduceCtorEq,zA,zB,zC,zD,zE,zF,zG,zH,zI,zJ]
 ((repeat refine Ws ?_);refine Wr ?_)
 simp (maxSteps := 1000000) only [VL,VM,↓VG,reduceIte,reduceCtorEq,zA,zB,zC,zD,zE,zF,zG,zH,zI,zJ]
 ((repeat refine Ws ?_);refine W_block ?_; (repeat refine Ws ?_)); refine W_loopS (fun s : ChkSt => [(0, spsV l), (2, .ptr M.H.length 0), (3, .ptr (M.H.length + 1) 0), (6, spsV l), (7, vi l.length), (8, vi s.i)]) (fun s => ⟨M.H ++ (VObj.obj [vi 0, vi 0] :: VObj.obj [vi (sumS (l.take s.i)).lo, vi (sumS (l.take s.i)).hi] :: s.junk), M.lg⟩) (fun s => l.length - s.i) (fun s => s.i ≤ l.length) ⟨0, []⟩ (Nat.zero_le _) ⟨rfl, rfl, rfl, rfl, rfl, rfl, trivial⟩ rfl ?_
 rintro ⟨i, junk⟩ hi
 simp only at hi
 have k1 : -9223372036854775808 ≤ (i : Int) + 1 ∧ (i : Int) + 1 < 9223372036854775808 := by omega
 ((repeat refine Ws ?_);refine Wr ?_)
 rcases Nat.lt_or_ge i l.length with hlt | hge
 ·have k2 : ((i : Int) < (l.length : Int)) = True := eq_true (by omega)
  have hx : l[i]? = some l[i] := List.getElem?_eq_getElem hlt
  have hx' := map_at (f := spP) hx
  have hmem := List.getElem_mem hlt
  generalize hc : l[i] = x at hx hx' hmem
  have hs := sumS_le (l := l.take i) fun y hy => hb y (List.mem_of_mem_take hy)
  rw [List.length_take] at hs
  have hxb := hb x hmem
  have ht := sumS_take hx
  have q1 : -9223372036854775808 ≤ (sumS (l.take i)).lo + x.lo ∧ (sumS (l.take i)).lo + x.lo < 9223372036854775808 := by omega
  have q2 : -9223372036854775808 ≤ (sumS (l.take i)).hi + x.hi ∧ (sumS (l.take i)).hi + x.hi < 9223372036854775808 := by omega
  simp (maxSteps := 1000000) only [VL,VM,↓VG,reduceIte,reduceCtorEq,zA,zB,zC,zD,zE,zF,zG,zH,zI,zJ, k2]
  ((repeat refine Ws ?_);refine Wt (by first|rfl|simp only [EV,zF,reduceIte]) ?_)
  ((repeat refine Ws ?_);refine W_skip ?_)
  simp (maxSteps := 1000000) only [VL,VM,↓VG,reduceIte,reduceCtorEq,zA,zB,zC,zD,zE,zF,zG,zH,zI,zJ]
  ((repeat refine Ws ?_);refine W_block ?_)
  ((repeat refine Ws ?_);refine Wr ?_)
  simp (maxSteps := 1000000) only [VL,VM,↓VG,reduceIte,reduceCtorEq,zA,zB,zC,zD,zE,zF,zG,zH,zI,zJ, hx']
  (repeat refine Ws ?_)
  refine W_drawP T_ok [] (by kernel_rfl) (by kernel_rfl) ?_
  generalize hi : mkPlan _ = infs
  cbv at hi
  subst hi
  simp (maxSteps := 1000000) only [VL,VM,↓VG,reduceIte,reduceCtorEq,zA,zB,zC,zD,zE,zF,zG,zH,zI,zJ, q1, q2]
  ((repeat refine Ws ?_);refine Wr ?_)
  simp (maxSteps := 1000000) only [VL,VM,↓VG,reduceIte,reduceCtorEq,zA,zB,zC,zD,zE,zF,zG,zH,zI,zJ, k1]
  refine LoopK.mk ⟨i + 1, junk ++ [VObj.obj [vi x.lo, vi x.hi]]⟩ (by simp only; omega) (by simp only; omega) ⟨rfl, rfl, rfl, rfl, rfl, rfl, trivial⟩ (by simp only [ht])
 ·have k2 : ((i : Int) < (l.length : Int)) = False := eq_false (by omega)
  obtain rfl : i = l.length := by omega
  simp (maxSteps := 1000000) only [VL,VM,↓VG,reduceIte,reduceCtorEq,zA,zB,zC,zD,zE,zF,zG,zH,zI,zJ, k2]
  ((repeat refine Ws ?_);refine Wf (by first|rfl|simp only [EV,zF,reduceIte]) ?_)
  ((repeat refine Ws ?_);refine W_exit ?_)
  simp (maxSteps := 1000000) only [VL,VM,↓VG,reduceIte,reduceCtorEq,zA,zB,zC,zD,zE,zF,zG,zH,zI,zJ]
  ((repeat refine Ws ?_);refine Wr ?_)
  simp (maxSteps := 1000000) only [VL,VM,↓VG,reduceIte,reduceCtorEq,zA,zB,zC,zD,zE,zF,zG,zH,zI,zJ]
  (repeat refine Ws ?_)
  refine W_ret ?_
  try simp only [thenQ, blockQ]
  refine own_ret (vs := [spV (sumS l)]) ?_ rfl rfl ⟨rfl, rfl⟩
  rw [List.take_length]
  simp [Tryd.f54, vresL, vload, t_span, get_cons, hget0, strip1]
  rfl
end Go.Proofs.YtnjgdlmddlinaaaDoor.Vm

/- The program's loads of bays, on values, part 2. (Vm) -/
namespace Go.Proofs.YtnjgdlmddlinaaaDoor.Vm
open Go Go.Proofs
theorem loadsOf_len (h : Ha) (l : List Pu) : (loadsOf h l).length = (baysOf h).toNat := by simp [loadsOf]
theorem loadsOf_nil (h : Ha) : loadsOf h [] = List.replicate (baysOf h).toNat ⟨0, 0⟩ := by
 apply List.ext_getElem
 ·simp [loadsOf]
 ·intro i h1 h2
  simp [loadsOf, loadAt]
theorem loadsOf_at {h : Ha} {l : List Pu} {k : Nat} (hk : k < (baysOf h).toNat) : (loadsOf h l)[k]? = some (loadAt h l k) := by
 simp [loadsOf, hk]
theorem loads_vm (h : Ha) (l : List Pu) (M : Mem) (V : VH h) (hg : ∀ o ∈ l, GoodP h o) (hl : l.length ≤ 500) : VC Tryd.prog 37 [hallV h, pusV l] M (fun r M' => M' = M ∧ r = spsV (loadsOf h l)) := by
 have hS := V.small
 have hbp := bays_pos V
 have b0 : 0 ≤ baysOf h := by omega
 have b1 : ((baysOf h).toNat * 16 ≤ 140737488355328) = True := eq_true (by omega)
 have b2 : ((baysOf h).toNat ≤ 9223372036854775807) = True := eq_true (by omega)
 refine VC_own' T_ok (f := 37) (fn := Tryd.f37) (by kernel_rfl) rfl Tryd.ntmps37 (by rfl) (by rfl) ?_
 ((repeat refine Ws ?_);refine Wr ?_)
 simp (maxSteps := 1000000) only [VL,VM,↓VG,reduceIte,reduceCtorEq,zA,zB,zC,zD,zE,zF,zG,zH,zI,zJ]
 ((repeat refine Ws ?_);refine Wr ?_)
 simp (maxSteps := 1000000) only [VL,VM,↓VG,reduceIte,reduceCtorEq,zA,zB,zC,zD,zE,zF,zG,zH,zI,zJ]
 apply call_eq (f := 22) (fn := Tryd.f22) (by kernel_rfl) (by rfl)
 ·exact bays_vm h _ hS
 simp (maxSteps := 1000000) only [VL,VM,↓VG,reduceIte,reduceCtorEq,zA,zB,zC,zD,zE,zF,zG,zH,zI,zJ, b0, b1, b2, spCs_rep]
 rw [← loadsOf_nil]
 ((repeat refine Ws ?_);refine Wr ?_)
 simp (maxSteps := 1000000) only [VL,VM,↓VG,reduceIte,reduceCtorEq,zA,zB,zC,zD,zE,zF,zG,zH,zI,zJ]
 ((repeat refine Ws ?_);refine W_block ?_; (repeat refine Ws ?_)); refine W_loopS (fun s : ChkSt => [(0, hallV h), (1, pusV l), (2, .ptr M.H.length 0), (5, .bf (M.H.length + 1) 0 (baysOf h).toNat 2), (12, pusV l), (13, vi l.length), (14, vi s.i)]) (fun s => ⟨M.H ++ (VObj.obj (hallC h) :: VObj.obj (spCs (loadsOf h (l.take s.i))) :: s.junk), M.lg⟩) (fun s => l.length - s.i) (fun s => s.i ≤ l.length) ⟨0, []⟩ (Nat.zero_le _) ⟨rfl, rfl, rfl, rfl, rfl, rfl, rfl, trivial⟩ rfl ?_
 rintro ⟨i, junk⟩ hi
 simp only at hi
 have k1 : -9223372036854775808 ≤ (i : Int) + 1 ∧ (i : Int) + 1 < 9223372036854775808 := by omega
 ((repeat refine Ws ?_);refine Wr ?_)
 rcases Nat.lt_or_ge i l.length with hlt | hge
 ·have k2 : ((i : Int) < (l.length : Int)) = True := eq_true (by omega)
  have hx : l[i]? = some l[i] := List.getElem?_eq_getElem hlt
  have hx' := map_at (f := puP) hx
  have hmem := List.getElem_mem hlt
  generalize hc : l[i] = p at hx hx' hmem
  have gp := hg p hmem
  obtain ⟨p1, p2, p3, p4, p5, p6⟩ := gp.bounds V
  have kp := map_at (f := kiP) (kAt_some p5 p6)
  have hb := bay_in V gp.1
  have hb0 := hb.1
  have hkl : (bayOf h p.pl).toNat < (baysOf h).toNat := by omega
  have c1 : ((bayOf h p.pl).toNat < (baysOf h).toNat) = True := eq_true hkl
  have c2 : ((bayOf h p.pl).toNat * 2 + 2 ≤ (spCs (loadsOf h (l.take i))).length) = True := eq_true (by rw [spCs_len, loadsOf_len]; omega)
  have c3 := spCs_at (loadsOf_at (l := l.take i) hkl)
  have hvk := kAt_VK V p5 p6
  have hle := loadAt_le (l := l.take i) V (fun o ho => hg o (List.mem_of_mem_take ho)) (bayOf h p.pl).toNat
  rw [List.length_take, Nat.min_eq_left hi] at hle
  have hle1 : (loadAt h (l.take i) (bayOf h p.pl).toNat).lo ≤ 1000000000 := by omega
  have hle2 : (loadAt h (l.take i) (bayOf h p.pl).toNat).hi ≤ 1000000000 := by omega
  have hsn := loadsOf_snoc h (l.take i) p (bayOf h p.pl).toNat (by omega)
  rw [show l.take i ++ [p] = l.take (i + 1) by rw [List.take_add_one, hx]; rfl] at hsn
  have c4 := spCs_set (l := loadsOf h (l.take i)) (k := (bayOf h p.pl).toNat) ⟨(loadAt h (l.take i) (bayOf h p.pl).toNat).lo + (kAt h p.kind).lo, (loadAt h (l.take i) (bayOf h p.pl).toNat).hi + (kAt h p.kind).hi⟩ (by rw [loadsOf_len]; exact hkl)
  rw [← hsn] at c4
  simp only at c4
  simp (maxSteps := 1000000) only [VL,VM,↓VG,reduceIte,reduceCtorEq,zA,zB,zC,zD,zE,zF,zG,zH,zI,zJ, k2]
  ((repeat refine Ws ?_);refine Wt (by first|rfl|simp only [EV,zF,reduceIte]) ?_)
  ((repeat refine Ws ?_);refine W_skip ?_)
  simp (maxSteps := 1000000) only [VL,VM,↓VG,reduceIte,reduceCtorEq,zA,zB,zC,zD,zE,zF,zG,zH,zI,zJ]
  ((repeat refine Ws ?_);refine W_block ?_)
  ((repeat refine Ws ?_);refine Wr ?_)
  simp (maxSteps := 1000000) only [VL,VM,↓VG,reduceIte,reduceCtorEq,zA,zB,zC,zD,zE,zF,zG,zH,zI,zJ, hx']
  ((repeat refine Ws ?_);refine Wr ?_)
  simp (maxSteps := 1000000) only [VL,VM,↓VG,reduceIte,reduceCtorEq,zA,zB,zC,zD,zE,zF,zG,zH,zI,zJ]
  apply call_eq (f := 53) (fn := Tryd.f53) (by kernel_rfl) (by rfl)
  ·exact bay_vm h p.pl _ hS p1 (by omega) p3 (by omega)
  simp (maxSteps := 1000000) only [VL,VM,↓VG,reduceIte,reduceCtorEq,zA,zB,zC,zD,zE,zF,zG,zH,zI,zJ]
  (repeat refine Ws ?_)
  refine W_drawP T_ok [] (by kernel_rfl) (by kernel_rfl) ?_
  generalize hi : mkPlan _ = infs
  cbv at hi
  subst hi
  simp (maxSteps := 1000000) only [VL,VM,↓VG,reduceIte,reduceCtorEq,zA,zB,zC,zD,zE,zF,zG,zH,zI,zJ, hb0, c1, c2, c3, p5, kp]
  apply call_d (f := 54) (fn := Tryd.f54) (by kernel_rfl) (by rfl)
  ·exact sum_vm [loadAt h (l.take i) (bayOf h p.pl).toNat, ⟨(kAt h p.kind).lo, (kAt h p.kind).hi⟩] _ (by simp) (by have := hvk.lo0; have := hvk.loHi; have := hvk.hi1; simp; omega)
  simp (maxSteps := 1000000) only [VL,VM,↓VG,reduceIte,reduceCtorEq,zA,zB,zC,zD,zE,zF,zG,zH,zI,zJ, hb0, c1, c2, c3, p5, kp, sumS, List.sum_cons, List.sum_nil, Int.add_zero, c4]
  ((repeat refine Ws ?_);refine Wr ?_)
  simp (maxSteps := 1000000) only [VL,VM,↓VG,reduceIte,reduceCtorEq,zA,zB,zC,zD,zE,zF,zG,zH,zI,zJ, k1]
  refine LoopK.mk ⟨i + 1, junk ++ [VObj.obj [vi p.pl.x, vi p.pl.y, vi p.kind]]⟩ (by simp only; omega) (by simp only; omega) ⟨rfl, rfl, rfl, rfl, rfl, rfl, rfl, trivial⟩ rfl
 ·have k2 : ((i : Int) < (l.length : Int)) = False := eq_false (by omega)
  obtain rfl : i = l.length := by omega
  simp (maxSteps := 1000000) only [VL,VM,↓VG,reduceIte,reduceCtorEq,zA,zB,zC,zD,zE,zF,zG,zH,zI,zJ, k2]
  ((repeat refine Ws ?_);refine Wf (by first|rfl|simp only [EV,zF,reduceIte]) ?_)
  ((repeat refine Ws ?_);refine W_exit ?_)
  simp (maxSteps := 1000000) only [VL,VM,↓VG,reduceIte,reduceCtorEq,zA,zB,zC,zD,zE,zF,zG,zH,zI,zJ]
  ((repeat refine Ws ?_);refine Wr ?_)
  simp (maxSteps := 1000000) only [VL,VM,↓VG,reduceIte,reduceCtorEq,zA,zB,zC,zD,zE,zF,zG,zH,zI,zJ]
  (repeat refine Ws ?_)
  refine W_ret ?_
  try simp only [thenQ, blockQ]
  refine own_ret1 rfl ?_ (by rfl)
  simp only [get_cons, frz, vtup, Nat.reduceEqDiff, if_true, if_false, reduceIte]
  rw [List.take_length, ← loadsOf_len h l]
  exact frz_spans (by omega) (by rw [hget]; rfl)
theorem checkLayout_vm (h : Ha) (l : List Pu) (M : Mem) (F : Fin h) (hl : l.length ≤ 1000000) : VC Tryd.prog 7 [hallV h, pusV l] M (fun r M' => M' = M ∧ r = vi (layoutErr h l)) := by
 refine VC_own' T_ok (f := 7) (fn := Tryd.f7) (by kernel_rfl) rfl Tryd.ntmps7 (by rfl) (by rfl) ?_
 ((repeat refine Ws ?_);refine Wr ?_)
 simp (maxSteps := 1000000) only [VL,VM,↓VG,reduceIte,reduceCtorEq,zA,zB,zC,zD,zE,zF,zG,zH,zI,zJ]
 ((repeat refine Ws ?_);refine Wr ?_)
 simp (maxSteps := 1000000) only [VL,VM,↓VG,reduceIte,reduceCtorEq,zA,zB,zC,zD,zE,zF,zG,zH,zI,zJ]
 apply call_eq (f := 6) (fn := Tryd.f6) (by kernel_rfl) (by rfl)
 ·exact check_vm h _ F
 simp (maxSteps := 1000000) only [VL,VM,↓VG,reduceIte,reduceCtorEq,zA,zB,zC,zD,zE,zF,zG,zH,zI,zJ]
 ((repeat refine Ws ?_);refine Wr ?_)
 by_cases e : hallErr h = 0
 ·simp (maxSteps := 1000000) only [VL,VM,↓VG,reduceIte,reduceCtorEq,zA,zB,zC,zD,zE,zF,zG,zH,zI,zJ, e]
  ((repeat refine Ws ?_);refine Wf (by first|rfl|simp only [EV,zF,reduceIte]) ?_)
  ((repeat refine Ws ?_);refine W_skip ?_)
  simp (maxSteps := 1000000) only [VL,VM,↓VG,reduceIte,reduceCtorEq,zA,zB,zC,zD,zE,zF,zG,zH,zI,zJ]
  ((repeat refine Ws ?_);refine Wr ?_)
  simp (maxSteps := 1000000) only [VL,VM,↓VG,reduceIte,reduceCtorEq,zA,zB,zC,zD,zE,zF,zG,zH,zI,zJ]
  apply call_eq (f := 26) (fn := Tryd.f26) (by kernel_rfl) (by rfl)
  ·exact checklayout_vm h l _ (VH.of e) hl
  simp (maxSteps := 1000000) only [VL,VM,↓VG,reduceIte,reduceCtorEq,zA,zB,zC,zD,zE,zF,zG,zH,zI,zJ]
  (repeat refine Ws ?_)
  refine W_ret ?_
  try simp only [thenQ, blockQ]
  refine own_ret1 rfl ?_ (by rfl)
  simp only [get_cons, frz, vtup, Nat.reduceEqDiff, if_true, if_false, reduceIte]
  simp [layoutErr, e]
 ·simp (maxSteps := 1000000) only [VL,VM,↓VG,reduceIte,reduceCtorEq,zA,zB,zC,zD,zE,zF,zG,zH,zI,zJ, e]
  ((repeat refine Ws ?_);refine Wt (by first|rfl|simp only [EV,zF,reduceIte]) ?_)
  ((repeat refine Ws ?_);refine Wr ?_)
  simp (maxSteps := 1000000) only [VL,VM,↓VG,reduceIte,reduceCtorEq,zA,zB,zC,zD,zE,zF,zG,zH,zI,zJ]
  (repeat refine Ws ?_)
  refine W_ret ?_
  try simp only [thenQ, blockQ]
  refine own_ret1 rfl ?_ (by rfl)
  simp only [get_cons, frz, vtup, Nat.reduceEqDiff, if_true, if_false, reduceIte]
  simp [layoutErr, e]
end Go.Proofs.YtnjgdlmddlinaaaDoor.Vm
