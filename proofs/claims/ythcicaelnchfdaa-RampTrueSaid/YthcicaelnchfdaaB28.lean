/- A part of the proofs about the chapter of the ramps; it states no condition of its own. -/
import Derived.Test.YthcicaelnchfdaaB15
import Derived.Test.YthcicaelnchfdaaB18
import Derived.Test.YthcicaelnchfdaaB27
set_option linter.unusedVariables false
set_option linter.unusedSimpArgs false
open Int renaming reduceLE → zA, reduceLT → zB, reduceToNat → zC, reduceNeg → zD
open Nat renaming reduceLT → zE, reduceEqDiff → zF, reduceAdd → zG, reduceSub → zH, reduceMul → zI, reduceLeDiff → zJ
/- Comparing, and the first of some, on values. (Vm) -/
namespace Go.Proofs.Ythcicaelnchfdaa.Vm
open Go Go.Proofs
theorem isNaN_v (a : Int) (M : Mem) : VC Try.prog 92 [vi a] M (fun r M' => M' = M ∧ r = vb false) := by
 refine VC_own' T_ok (f := 92) (fn := Try.f92) (by kernel_rfl) rfl Try.ntmps92 (by rfl) (by rfl) ?_
 ((repeat refine Ws ?_);refine W_regionE T_ok ?_; intro Kn hKn)
 ((simp (maxSteps := 1000000) only [VL,VM,↓VG,reduceIte,reduceCtorEq,zA,zB,zC,zD,zE,zF,zG,zH,zI,zJ]); rw [hKn];clear hKn Kn;simp only [QV,reduceIte,reduceCtorEq,Nat.reduceEqDiff])
 ((repeat refine Ws ?_);refine W_regionE T_ok ?_; intro Kn hKn)
 ((simp (maxSteps := 1000000) only [VL,VM,↓VG,reduceIte,reduceCtorEq,zA,zB,zC,zD,zE,zF,zG,zH,zI,zJ]); rw [hKn];clear hKn Kn;simp only [QV,reduceIte,reduceCtorEq,Nat.reduceEqDiff])
 (repeat refine Ws ?_)
 refine W_ret ?_
 try simp only [thenQ, blockQ]
 refine own_ret10 rfl ?_ (by rfl)
 simp only [get_cons, frz, vtup, Nat.reduceEqDiff, if_true, if_false, reduceIte]
theorem compare_v (a b : Int) (M : Mem) : VC Try.prog 72 [vi a, vi b] M (fun r M' => M' = M ∧ r = vi (cmpI a b)) := by
 have e1 : cmpI a b = cmpI a b := rfl
 conv at e1 => rhs; unfold cmpI
 refine VC_own' T_ok (f := 72) (fn := Try.f72) (by kernel_rfl) rfl Try.ntmps72 (by rfl) (by rfl) ?_
 ((repeat refine Ws ?_);refine W_regionE T_ok ?_; intro Kn hKn)
 ((simp (maxSteps := 1000000) only [VL,VM,↓VG,reduceIte,reduceCtorEq,zA,zB,zC,zD,zE,zF,zG,zH,zI,zJ]); rw [hKn];clear hKn Kn;simp only [QV,reduceIte,reduceCtorEq,Nat.reduceEqDiff])
 ((repeat refine Ws ?_);refine W_regionE T_ok ?_; intro Kn hKn)
 simp (maxSteps := 1000000) only [VL,VM,↓VG,reduceIte,reduceCtorEq,zA,zB,zC,zD,zE,zF,zG,zH,zI,zJ]
 apply call_eq (f := 92) (fn := Try.f92) (by kernel_rfl) (by rfl)
 ·exact isNaN_v a _
 ((simp (maxSteps := 1000000) only [VL,VM,↓VG,reduceIte,reduceCtorEq,zA,zB,zC,zD,zE,zF,zG,zH,zI,zJ]); rw [hKn];clear hKn Kn;simp only [QV,reduceIte,reduceCtorEq,Nat.reduceEqDiff])
 ((repeat refine Ws ?_);refine W_regionE T_ok ?_; intro Kn hKn)
 simp (maxSteps := 1000000) only [VL,VM,↓VG,reduceIte,reduceCtorEq,zA,zB,zC,zD,zE,zF,zG,zH,zI,zJ]
 apply call_eq (f := 92) (fn := Try.f92) (by kernel_rfl) (by rfl)
 ·exact isNaN_v b _
 ((simp (maxSteps := 1000000) only [VL,VM,↓VG,reduceIte,reduceCtorEq,zA,zB,zC,zD,zE,zF,zG,zH,zI,zJ]); rw [hKn];clear hKn Kn;simp only [QV,reduceIte,reduceCtorEq,Nat.reduceEqDiff])
 ((repeat refine Ws ?_);refine W_regionE T_ok ?_; intro Kn hKn)
 ((simp (maxSteps := 1000000) only [VL,VM,↓VG,reduceIte,reduceCtorEq,zA,zB,zC,zD,zE,zF,zG,zH,zI,zJ]); rw [hKn];clear hKn Kn;simp only [QV,reduceIte,reduceCtorEq,Nat.reduceEqDiff])
 ((repeat refine Ws ?_);refine Wf (by first|rfl|simp only [EV,zF,reduceIte]) ?_)
 (((repeat refine Ws ?_);refine W_skip ?_); simp only [QV,reduceIte,reduceCtorEq,Nat.reduceEqDiff])
 ((repeat refine Ws ?_);refine W_regionE T_ok ?_; intro Kn hKn)
 ((simp (maxSteps := 1000000) only [VL,VM,↓VG,reduceIte,reduceCtorEq,zA,zB,zC,zD,zE,zF,zG,zH,zI,zJ]); rw [hKn];clear hKn Kn;simp only [QV,reduceIte,reduceCtorEq,Nat.reduceEqDiff])
 ((repeat refine Ws ?_);refine Wf (by first|rfl|simp only [EV,zF,reduceIte]) ?_)
 (((repeat refine Ws ?_);refine W_skip ?_); simp only [QV,reduceIte,reduceCtorEq,Nat.reduceEqDiff])
 ((repeat refine Ws ?_);refine W_regionE T_ok ?_; intro Kn hKn)
 by_cases h1 : a < b
 ·rw [if_pos h1] at e1
  ((simp (maxSteps := 1000000) only [VL,VM,↓VG,reduceIte,reduceCtorEq,zA,zB,zC,zD,zE,zF,zG,zH,zI,zJ, h1]); rw [hKn];clear hKn Kn;simp only [QV,reduceIte,reduceCtorEq,Nat.reduceEqDiff])
  ((repeat refine Ws ?_);refine Wt (by first|rfl|simp only [EV,zF,reduceIte]) ?_)
  ((repeat refine Ws ?_);refine W_regionE T_ok ?_; intro Kn hKn)
  ((simp (maxSteps := 1000000) only [VL,VM,↓VG,reduceIte,reduceCtorEq,zA,zB,zC,zD,zE,zF,zG,zH,zI,zJ]); rw [hKn];clear hKn Kn;simp only [QV,reduceIte,reduceCtorEq,Nat.reduceEqDiff])
  (repeat refine Ws ?_)
  refine W_ret ?_
  try simp only [thenQ, blockQ]
  refine own_ret10 rfl ?_ (by rfl)
  simp only [get_cons, frz, vtup, Nat.reduceEqDiff, if_true, if_false, reduceIte]
  rw [e1]
 rw [if_neg h1] at e1
 ((simp (maxSteps := 1000000) only [VL,VM,↓VG,reduceIte,reduceCtorEq,zA,zB,zC,zD,zE,zF,zG,zH,zI,zJ, h1]); rw [hKn];clear hKn Kn;simp only [QV,reduceIte,reduceCtorEq,Nat.reduceEqDiff])
 ((repeat refine Ws ?_);refine Wf (by first|rfl|simp only [EV,zF,reduceIte]) ?_)
 (((repeat refine Ws ?_);refine W_skip ?_); simp only [QV,reduceIte,reduceCtorEq,Nat.reduceEqDiff])
 ((repeat refine Ws ?_);refine W_regionE T_ok ?_; intro Kn hKn)
 by_cases h2 : b < a
 ·rw [if_pos h2] at e1
  ((simp (maxSteps := 1000000) only [VL,VM,↓VG,reduceIte,reduceCtorEq,zA,zB,zC,zD,zE,zF,zG,zH,zI,zJ, h2]); rw [hKn];clear hKn Kn;simp only [QV,reduceIte,reduceCtorEq,Nat.reduceEqDiff])
  ((repeat refine Ws ?_);refine Wt (by first|rfl|simp only [EV,zF,reduceIte]) ?_)
  ((repeat refine Ws ?_);refine W_regionE T_ok ?_; intro Kn hKn)
  ((simp (maxSteps := 1000000) only [VL,VM,↓VG,reduceIte,reduceCtorEq,zA,zB,zC,zD,zE,zF,zG,zH,zI,zJ]); rw [hKn];clear hKn Kn;simp only [QV,reduceIte,reduceCtorEq,Nat.reduceEqDiff])
  (repeat refine Ws ?_)
  refine W_ret ?_
  try simp only [thenQ, blockQ]
  refine own_ret10 rfl ?_ (by rfl)
  simp only [get_cons, frz, vtup, Nat.reduceEqDiff, if_true, if_false, reduceIte]
  rw [e1]
 ·rw [if_neg h2] at e1
  ((simp (maxSteps := 1000000) only [VL,VM,↓VG,reduceIte,reduceCtorEq,zA,zB,zC,zD,zE,zF,zG,zH,zI,zJ, h2]); rw [hKn];clear hKn Kn;simp only [QV,reduceIte,reduceCtorEq,Nat.reduceEqDiff])
  ((repeat refine Ws ?_);refine Wf (by first|rfl|simp only [EV,zF,reduceIte]) ?_)
  (((repeat refine Ws ?_);refine W_skip ?_); simp only [QV,reduceIte,reduceCtorEq,Nat.reduceEqDiff])
  ((repeat refine Ws ?_);refine W_regionE T_ok ?_; intro Kn hKn)
  ((simp (maxSteps := 1000000) only [VL,VM,↓VG,reduceIte,reduceCtorEq,zA,zB,zC,zD,zE,zF,zG,zH,zI,zJ]); rw [hKn];clear hKn Kn;simp only [QV,reduceIte,reduceCtorEq,Nat.reduceEqDiff])
  (repeat refine Ws ?_)
  refine W_ret ?_
  try simp only [thenQ, blockQ]
  refine own_ret10 rfl ?_ (by rfl)
  simp only [get_cons, frz, vtup, Nat.reduceEqDiff, if_true, if_false, reduceIte]
  rw [e1]
theorem cmpL_at {a b : List Int} {i : Nat} (h : i < a.length) (h' : i < b.length) : cmpL (a.drop i) (b.drop i) = if cmpI a[i] b[i] = 0 then cmpL (a.drop (i + 1)) (b.drop (i + 1)) else cmpI a[i] b[i] := by
 rw [drop_at h, drop_at h', cmpL]
set_option maxHeartbeats 1000000 in
theorem scompare_v (a b : List Int) (M : Mem) (hl : a.length ≤ 1000000) (hl2 : b.length ≤ 1000000) : VC Try.prog 73 [intsV a, intsV b] M (fun r M' => M' = M ∧ r = vi (cmpL a b)) := by
 refine VC_own' T_ok (f := 73) (fn := Try.f73) (by kernel_rfl) rfl Try.ntmps73 (by rfl) (by rfl) ?_
 ((repeat refine Ws ?_);refine W_regionE T_ok ?_; intro Kn hKn)
 ((simp (maxSteps := 1000000) only [VL,VM,↓VG,reduceIte,reduceCtorEq,zA,zB,zC,zD,zE,zF,zG,zH,zI,zJ]); rw [hKn];clear hKn Kn;simp only [QV,reduceIte,reduceCtorEq,Nat.reduceEqDiff])
 ((repeat refine Ws ?_);refine W_regionE T_ok ?_; intro Kn hKn)
 ((simp (maxSteps := 1000000) only [VL,VM,↓VG,reduceIte,reduceCtorEq,zA,zB,zC,zD,zE,zF,zG,zH,zI,zJ]); rw [hKn];clear hKn Kn;simp only [QV,reduceIte,reduceCtorEq,Nat.reduceEqDiff])
 ((repeat refine Ws ?_);refine W_block ?_; (repeat refine Ws ?_)); refine W_loopS (fun i : Nat => [(0, intsV a), (1, intsV b), (9, intsV a), (10, vi a.length), (11, vi i)]) (fun _ => M) (fun i => a.length - i) (fun i => i ≤ a.length ∧ i ≤ b.length ∧ cmpL a b = cmpL (a.drop i) (b.drop i)) 0 ⟨Nat.zero_le _, Nat.zero_le _, rfl⟩ ⟨rfl, rfl, rfl, rfl, rfl, trivial⟩ rfl ?_
 rintro i ⟨hi, hi2, he⟩
 have k1 : -9223372036854775808 ≤ (i : Int) + 1 ∧ (i : Int) + 1 < 9223372036854775808 := by omega
 ((repeat refine Ws ?_);refine W_regionE T_ok ?_; intro Kn hKn)
 rcases Nat.lt_or_ge i a.length with hlt | hge
 ·have k2 : ((i : Int) < (a.length : Int)) = True := eq_true (by omega)
  have hx : a[i]? = some a[i] := List.getElem?_eq_getElem hlt
  have hx' := map_at (f := intP) hx
  ((simp (maxSteps := 1000000) only [VL,VM,↓VG,reduceIte,reduceCtorEq,zA,zB,zC,zD,zE,zF,zG,zH,zI,zJ, k2]); rw [hKn];clear hKn Kn;simp only [QV,reduceIte,reduceCtorEq,Nat.reduceEqDiff])
  ((repeat refine Ws ?_);refine Wt (by first|rfl|simp only [EV,zF,reduceIte]) ?_)
  (((repeat refine Ws ?_);refine W_skip ?_); simp only [QV,reduceIte,reduceCtorEq,Nat.reduceEqDiff])
  ((repeat refine Ws ?_);refine W_block ?_)
  ((repeat refine Ws ?_);refine W_regionE T_ok ?_; intro Kn hKn)
  ((simp (maxSteps := 1000000) only [VL,VM,↓VG,reduceIte,reduceCtorEq,zA,zB,zC,zD,zE,zF,zG,zH,zI,zJ, hx']); rw [hKn];clear hKn Kn;simp only [QV,reduceIte,reduceCtorEq,Nat.reduceEqDiff])
  ((repeat refine Ws ?_);refine W_regionE T_ok ?_; intro Kn hKn)
  rcases Nat.lt_or_ge i b.length with hlt2 | hge2
  ·have k3 : ((b.length : Int) ≤ (i : Int)) = False := eq_false (by omega)
   have hy : b[i]? = some b[i] := List.getElem?_eq_getElem hlt2
   have hy' := map_at (f := intP) hy
   rw [cmpL_at hlt hlt2] at he
   generalize a[i] = u at hx hx' he
   generalize b[i] = v at hy hy' he
   ((simp (maxSteps := 1000000) only [VL,VM,↓VG,reduceIte,reduceCtorEq,zA,zB,zC,zD,zE,zF,zG,zH,zI,zJ, k3]); rw [hKn];clear hKn Kn;simp only [QV,reduceIte,reduceCtorEq,Nat.reduceEqDiff])
   ((repeat refine Ws ?_);refine Wf (by first|rfl|simp only [EV,zF,reduceIte]) ?_)
   (((repeat refine Ws ?_);refine W_skip ?_); simp only [QV,reduceIte,reduceCtorEq,Nat.reduceEqDiff])
   ((repeat refine Ws ?_);refine W_regionE T_ok ?_; intro Kn hKn)
   ((simp (maxSteps := 1000000) only [VL,VM,↓VG,reduceIte,reduceCtorEq,zA,zB,zC,zD,zE,zF,zG,zH,zI,zJ, hy']); rw [hKn];clear hKn Kn;simp only [QV,reduceIte,reduceCtorEq,Nat.reduceEqDiff])
   ((repeat refine Ws ?_);refine W_regionE T_ok ?_; intro Kn hKn)
   simp (maxSteps := 1000000) only [VL,VM,↓VG,reduceIte,reduceCtorEq,zA,zB,zC,zD,zE,zF,zG,zH,zI,zJ]
   apply call_eq (f := 72) (fn := Try.f72) (by kernel_rfl) (by rfl)
   ·exact compare_v u v _
   ((simp (maxSteps := 1000000) only [VL,VM,↓VG,reduceIte,reduceCtorEq,zA,zB,zC,zD,zE,zF,zG,zH,zI,zJ]); rw [hKn];clear hKn Kn;simp only [QV,reduceIte,reduceCtorEq,Nat.reduceEqDiff])
   ((repeat refine Ws ?_);refine W_regionE T_ok ?_; intro Kn hKn)
   by_cases h0 : cmpI u v = 0
   ·rw [if_pos h0] at he
    ((simp (maxSteps := 1000000) only [VL,VM,↓VG,reduceIte,reduceCtorEq,zA,zB,zC,zD,zE,zF,zG,zH,zI,zJ, h0]); rw [hKn];clear hKn Kn;simp only [QV,reduceIte,reduceCtorEq,Nat.reduceEqDiff])
    ((repeat refine Ws ?_);refine Wf (by first|rfl|simp only [EV,zF,reduceIte]) ?_)
    (((repeat refine Ws ?_);refine W_skip ?_); simp only [QV,reduceIte,reduceCtorEq,Nat.reduceEqDiff])
    ((repeat refine Ws ?_);refine W_regionE T_ok ?_; intro Kn hKn)
    ((simp (maxSteps := 1000000) only [VL,VM,↓VG,reduceIte,reduceCtorEq,zA,zB,zC,zD,zE,zF,zG,zH,zI,zJ, k1]); rw [hKn];clear hKn Kn;simp only [QV,reduceIte,reduceCtorEq,Nat.reduceEqDiff])
    exact LoopK.mk (i + 1) (by omega) ⟨by omega, by omega, he⟩ ⟨rfl, rfl, rfl, rfl, rfl, trivial⟩ rfl
   ·rw [if_neg h0] at he
    ((simp (maxSteps := 1000000) only [VL,VM,↓VG,reduceIte,reduceCtorEq,zA,zB,zC,zD,zE,zF,zG,zH,zI,zJ, h0]); rw [hKn];clear hKn Kn;simp only [QV,reduceIte,reduceCtorEq,Nat.reduceEqDiff])
    ((repeat refine Ws ?_);refine Wt (by first|rfl|simp only [EV,zF,reduceIte]) ?_)
    rw [he]
    ((repeat refine Ws ?_);refine W_regionE T_ok ?_; intro Kn hKn)
    ((simp (maxSteps := 1000000) only [VL,VM,↓VG,reduceIte,reduceCtorEq,zA,zB,zC,zD,zE,zF,zG,zH,zI,zJ]); rw [hKn];clear hKn Kn;simp only [QV,reduceIte,reduceCtorEq,Nat.reduceEqDiff])
    (repeat refine Ws ?_)
    refine W_ret ?_
    try simp only [thenQ, blockQ]
    refine own_ret10 rfl ?_ (by rfl)
    simp only [get_cons, frz, vtup, Nat.reduceEqDiff, if_true, if_false, reduceIte]
  ·have k3 : ((b.length : Int) ≤ (i : Int)) = True := eq_true (by omega)
   have : cmpL a b = 1 := by
    rw [he, drop_at hlt, List.drop_of_length_le hge2, cmpL]
   ((simp (maxSteps := 1000000) only [VL,VM,↓VG,reduceIte,reduceCtorEq,zA,zB,zC,zD,zE,zF,zG,zH,zI,zJ, k3]); rw [hKn];clear hKn Kn;simp only [QV,reduceIte,reduceCtorEq,Nat.reduceEqDiff])
   ((repeat refine Ws ?_);refine Wt (by first|rfl|simp only [EV,zF,reduceIte]) ?_)
   rw [this]
   ((repeat refine Ws ?_);refine W_regionE T_ok ?_; intro Kn hKn)
   ((simp (maxSteps := 1000000) only [VL,VM,↓VG,reduceIte,reduceCtorEq,zA,zB,zC,zD,zE,zF,zG,zH,zI,zJ]); rw [hKn];clear hKn Kn;simp only [QV,reduceIte,reduceCtorEq,Nat.reduceEqDiff])
   (repeat refine Ws ?_)
   refine W_ret ?_
   try simp only [thenQ, blockQ]
   refine own_ret10 rfl ?_ (by rfl)
   simp only [get_cons, frz, vtup, Nat.reduceEqDiff, if_true, if_false, reduceIte]
 ·have k2 : ((i : Int) < (a.length : Int)) = False := eq_false (by omega)
  obtain rfl : i = a.length := by omega
  rw [List.drop_length] at he
  ((simp (maxSteps := 1000000) only [VL,VM,↓VG,reduceIte,reduceCtorEq,zA,zB,zC,zD,zE,zF,zG,zH,zI,zJ, k2]); rw [hKn];clear hKn Kn;simp only [QV,reduceIte,reduceCtorEq,Nat.reduceEqDiff])
  ((repeat refine Ws ?_);refine Wf (by first|rfl|simp only [EV,zF,reduceIte]) ?_)
  (((repeat refine Ws ?_);refine W_exit ?_); simp only [QV,reduceIte,reduceCtorEq,Nat.reduceEqDiff])
  ((repeat refine Ws ?_);refine W_regionE T_ok ?_; intro Kn hKn)
  rcases Nat.lt_or_ge a.length b.length with hlt2 | hge2
  ·have k3 : ((a.length : Int) < (b.length : Int)) = True := eq_true (by omega)
   rw [drop_at hlt2, cmpL] at he
   ((simp (maxSteps := 1000000) only [VL,VM,↓VG,reduceIte,reduceCtorEq,zA,zB,zC,zD,zE,zF,zG,zH,zI,zJ, k3]); rw [hKn];clear hKn Kn;simp only [QV,reduceIte,reduceCtorEq,Nat.reduceEqDiff])
   ((repeat refine Ws ?_);refine Wt (by first|rfl|simp only [EV,zF,reduceIte]) ?_)
   rw [he]
   ((repeat refine Ws ?_);refine W_regionE T_ok ?_; intro Kn hKn)
   ((simp (maxSteps := 1000000) only [VL,VM,↓VG,reduceIte,reduceCtorEq,zA,zB,zC,zD,zE,zF,zG,zH,zI,zJ]); rw [hKn];clear hKn Kn;simp only [QV,reduceIte,reduceCtorEq,Nat.reduceEqDiff])
   (repeat refine Ws ?_)
   refine W_ret ?_
   try simp only [thenQ, blockQ]
   refine own_ret10 rfl ?_ (by rfl)
   simp only [get_cons, frz, vtup, Nat.reduceEqDiff, if_true, if_false, reduceIte]
  ·have k3 : ((a.length : Int) < (b.length : Int)) = False := eq_false (by omega)
   rw [List.drop_of_length_le hge2, cmpL] at he
   ((simp (maxSteps := 1000000) only [VL,VM,↓VG,reduceIte,reduceCtorEq,zA,zB,zC,zD,zE,zF,zG,zH,zI,zJ, k3]); rw [hKn];clear hKn Kn;simp only [QV,reduceIte,reduceCtorEq,Nat.reduceEqDiff])
   ((repeat refine Ws ?_);refine Wf (by first|rfl|simp only [EV,zF,reduceIte]) ?_)
   (((repeat refine Ws ?_);refine W_skip ?_); simp only [QV,reduceIte,reduceCtorEq,Nat.reduceEqDiff])
   rw [he]
   ((repeat refine Ws ?_);refine W_regionE T_ok ?_; intro Kn hKn)
   ((simp (maxSteps := 1000000) only [VL,VM,↓VG,reduceIte,reduceCtorEq,zA,zB,zC,zD,zE,zF,zG,zH,zI,zJ]); rw [hKn];clear hKn Kn;simp only [QV,reduceIte,reduceCtorEq,Nat.reduceEqDiff])
   (repeat refine Ws ?_)
   refine W_ret ?_
   try simp only [thenQ, blockQ]
   refine own_ret10 rfl ?_ (by rfl)
   simp only [get_cons, frz, vtup, Nat.reduceEqDiff, if_true, if_false, reduceIte]
theorem or2_v (a b : Int) (M : Mem) : VC Try.prog 71 [intsV [a, b]] M (fun r M' => M' = M ∧ r = vi (orI [a, b])) := by
 refine VC_own' T_ok (f := 71) (fn := Try.f71) (by kernel_rfl) rfl Try.ntmps71 (by rfl) (by rfl) ?_
 ((repeat refine Ws ?_);refine W_regionE T_ok ?_; intro Kn hKn)
 ((simp (maxSteps := 1000000) only [VL,VM,↓VG,reduceIte,reduceCtorEq,zA,zB,zC,zD,zE,zF,zG,zH,zI,zJ]); rw [hKn];clear hKn Kn;simp only [QV,reduceIte,reduceCtorEq,Nat.reduceEqDiff])
 ((repeat refine Ws ?_);refine W_regionE T_ok ?_; intro Kn hKn)
 ((simp (maxSteps := 1000000) only [VL,VM,↓VG,reduceIte,reduceCtorEq,zA,zB,zC,zD,zE,zF,zG,zH,zI,zJ]); rw [hKn];clear hKn Kn;simp only [QV,reduceIte,reduceCtorEq,Nat.reduceEqDiff])
 ((repeat refine Ws ?_);refine W_regionE T_ok ?_; intro Kn hKn)
 ((simp (maxSteps := 1000000) only [VL,VM,↓VG,reduceIte,reduceCtorEq,zA,zB,zC,zD,zE,zF,zG,zH,zI,zJ]); rw [hKn];clear hKn Kn;simp only [QV,reduceIte,reduceCtorEq,Nat.reduceEqDiff])
 ((repeat refine Ws ?_);refine W_block ?_; (repeat refine Ws ?_)); refine W_loopS (fun i : Nat => [(3, vi 0), (6, intsV [a, b]), (7, vi 2), (8, vi i)]) (fun _ => M) (fun i => 2 - i) (fun i => i ≤ 2 ∧ orI [a, b] = orI ([a, b].drop i)) 0 ⟨Nat.zero_le _, rfl⟩ ⟨rfl, rfl, rfl, rfl, trivial⟩ rfl ?_
 rintro i ⟨hi, he⟩
 have k1 : -9223372036854775808 ≤ (i : Int) + 1 ∧ (i : Int) + 1 < 9223372036854775808 := by omega
 ((repeat refine Ws ?_);refine W_regionE T_ok ?_; intro Kn hKn)
 rcases Nat.lt_or_ge i 2 with hlt | hge
 ·have k2 : ((i : Int) < 2) = True := eq_true (by omega)
  have hlt' : i < [a, b].length := hlt
  have hx : [a, b][i]? = some [a, b][i] := List.getElem?_eq_getElem hlt'
  have hx' := map_at (f := intP) hx
  generalize hL : [a, b] = L at *
  rw [drop_at hlt', orI] at he
  generalize L[i] = u at hx hx' he
  ((simp (maxSteps := 1000000) only [VL,VM,↓VG,reduceIte,reduceCtorEq,zA,zB,zC,zD,zE,zF,zG,zH,zI,zJ, k2]); rw [hKn];clear hKn Kn;simp only [QV,reduceIte,reduceCtorEq,Nat.reduceEqDiff])
  ((repeat refine Ws ?_);refine Wt (by first|rfl|simp only [EV,zF,reduceIte]) ?_)
  (((repeat refine Ws ?_);refine W_skip ?_); simp only [QV,reduceIte,reduceCtorEq,Nat.reduceEqDiff])
  ((repeat refine Ws ?_);refine W_block ?_)
  ((repeat refine Ws ?_);refine W_regionE T_ok ?_; intro Kn hKn)
  ((simp (maxSteps := 1000000) only [VL,VM,↓VG,reduceIte,reduceCtorEq,zA,zB,zC,zD,zE,zF,zG,zH,zI,zJ, hx']); rw [hKn];clear hKn Kn;simp only [QV,reduceIte,reduceCtorEq,Nat.reduceEqDiff])
  ((repeat refine Ws ?_);refine W_regionE T_ok ?_; intro Kn hKn)
  by_cases h0 : u = 0
  ·rw [if_pos h0] at he
   ((simp (maxSteps := 1000000) only [VL,VM,↓VG,reduceIte,reduceCtorEq,zA,zB,zC,zD,zE,zF,zG,zH,zI,zJ, h0]); rw [hKn];clear hKn Kn;simp only [QV,reduceIte,reduceCtorEq,Nat.reduceEqDiff])
   ((repeat refine Ws ?_);refine Wf (by first|rfl|simp only [EV,zF,reduceIte]) ?_)
   (((repeat refine Ws ?_);refine W_skip ?_); simp only [QV,reduceIte,reduceCtorEq,Nat.reduceEqDiff])
   ((repeat refine Ws ?_);refine W_regionE T_ok ?_; intro Kn hKn)
   ((simp (maxSteps := 1000000) only [VL,VM,↓VG,reduceIte,reduceCtorEq,zA,zB,zC,zD,zE,zF,zG,zH,zI,zJ, k1]); rw [hKn];clear hKn Kn;simp only [QV,reduceIte,reduceCtorEq,Nat.reduceEqDiff])
   exact LoopK.mk (i + 1) (by omega) ⟨by omega, he⟩ ⟨rfl, rfl, rfl, rfl, trivial⟩ rfl
  ·rw [if_neg h0] at he
   ((simp (maxSteps := 1000000) only [VL,VM,↓VG,reduceIte,reduceCtorEq,zA,zB,zC,zD,zE,zF,zG,zH,zI,zJ, h0]); rw [hKn];clear hKn Kn;simp only [QV,reduceIte,reduceCtorEq,Nat.reduceEqDiff])
   ((repeat refine Ws ?_);refine Wt (by first|rfl|simp only [EV,zF,reduceIte]) ?_)
   rw [he]
   ((repeat refine Ws ?_);refine W_regionE T_ok ?_; intro Kn hKn)
   ((simp (maxSteps := 1000000) only [VL,VM,↓VG,reduceIte,reduceCtorEq,zA,zB,zC,zD,zE,zF,zG,zH,zI,zJ]); rw [hKn];clear hKn Kn;simp only [QV,reduceIte,reduceCtorEq,Nat.reduceEqDiff])
   (repeat refine Ws ?_)
   refine W_ret ?_
   try simp only [thenQ, blockQ]
   refine own_ret10 rfl ?_ (by rfl)
   simp only [get_cons, frz, vtup, Nat.reduceEqDiff, if_true, if_false, reduceIte]
 ·have k2 : ((i : Int) < 2) = False := eq_false (by omega)
  obtain rfl : i = 2 := by omega
  ((simp (maxSteps := 1000000) only [VL,VM,↓VG,reduceIte,reduceCtorEq,zA,zB,zC,zD,zE,zF,zG,zH,zI,zJ, k2]); rw [hKn];clear hKn Kn;simp only [QV,reduceIte,reduceCtorEq,Nat.reduceEqDiff])
  ((repeat refine Ws ?_);refine Wf (by first|rfl|simp only [EV,zF,reduceIte]) ?_)
  (((repeat refine Ws ?_);refine W_exit ?_); simp only [QV,reduceIte,reduceCtorEq,Nat.reduceEqDiff])
  rw [he]
  ((repeat refine Ws ?_);refine W_regionE T_ok ?_; intro Kn hKn)
  ((simp (maxSteps := 1000000) only [VL,VM,↓VG,reduceIte,reduceCtorEq,zA,zB,zC,zD,zE,zF,zG,zH,zI,zJ]); rw [hKn];clear hKn Kn;simp only [QV,reduceIte,reduceCtorEq,Nat.reduceEqDiff])
  (repeat refine Ws ?_)
  refine W_ret ?_
  try simp only [thenQ, blockQ]
  refine own_ret10 rfl ?_ (by rfl)
  simp only [get_cons, frz, vtup, Nat.reduceEqDiff, if_true, if_false, reduceIte]
  rfl
theorem stuck1_v (a b : Nat) {pm pl : Nat} (M : Mem) (ha : a < 128) (hb : b < 128) (hm : M.H[pm]? = some (.obj [.fn (.func 65) [] []])) (hl : M.H[pl]? = some (.obj [.fn (.func 66) [] []])) :
  VC Try.prog 70 [su a, su b, .ptr pm 0, .ptr pl 0] M (fun r M' => M' = M ∧ r = vi (cmpS a b)) := by
 have la : (bitsI a).length ≤ 1000000 := by have := bitsL_len (s := a); simp [bitsI]; omega
 have lb : (bitsI b).length ≤ 1000000 := by have := bitsL_len (s := b); simp [bitsI]; omega
 refine VC_own' T_ok (f := 70) (fn := Try.f70) (by kernel_rfl) rfl Try.ntmps70 (by rfl) (by rfl) ?_
 ((repeat refine Ws ?_);refine W_regionE T_ok ?_; intro Kn hKn)
 ((simp (maxSteps := 1000000) only [VL,VM,↓VG,reduceIte,reduceCtorEq,zA,zB,zC,zD,zE,zF,zG,zH,zI,zJ]); rw [hKn];clear hKn Kn;simp only [QV,reduceIte,reduceCtorEq,Nat.reduceEqDiff])
 (repeat refine Ws ?_)
 refine W_drawE T_ok [] (by kernel_rfl) (by kernel_rfl) ?_
 intro Kn hKn
 generalize hi : mkPlan _ = infs
 cbv at hi
 subst hi
 simp (maxSteps := 1000000) only [VL,VM,↓VG,reduceIte,reduceCtorEq,zA,zB,zC,zD,zE,zF,zG,zH,zI,zJ, hm, hl]
 apply call_d (f := 65) (fn := Try.f65) (by kernel_rfl) (by rfl)
 ·exact many_v a _ ha
 simp (maxSteps := 1000000) only [VL,VM,↓VG,reduceIte,reduceCtorEq,zA,zB,zC,zD,zE,zF,zG,zH,zI,zJ, hm, hl]
 apply call_d (f := 65) (fn := Try.f65) (by kernel_rfl) (by rfl)
 ·exact many_v b _ hb
 simp (maxSteps := 1000000) only [VL,VM,↓VG,reduceIte,reduceCtorEq,zA,zB,zC,zD,zE,zF,zG,zH,zI,zJ, hm, hl]
 apply call_d (f := 72) (fn := Try.f72) (by kernel_rfl) (by rfl)
 ·exact compare_v _ _ _
 simp (maxSteps := 1000000) only [VL,VM,↓VG,reduceIte,reduceCtorEq,zA,zB,zC,zD,zE,zF,zG,zH,zI,zJ, hm, hl]
 apply call_d (f := 66) (fn := Try.f66) (by kernel_rfl) (by rfl)
 ·exact list_s a _ ha
 simp (maxSteps := 1000000) only [VL,VM,↓VG,reduceIte,reduceCtorEq,zA,zB,zC,zD,zE,zF,zG,zH,zI,zJ, hm, hl]
 apply call_d (f := 66) (fn := Try.f66) (by kernel_rfl) (by rfl)
 ·exact list_s b _ hb
 simp (maxSteps := 1000000) only [VL,VM,↓VG,reduceIte,reduceCtorEq,zA,zB,zC,zD,zE,zF,zG,zH,zI,zJ, hm, hl]
 apply call_d (f := 73) (fn := Try.f73) (by kernel_rfl) (by rfl)
 ·exact scompare_v (bitsI a) (bitsI b) _ la lb
 simp (maxSteps := 1000000) only [VL,VM,↓VG,reduceIte,reduceCtorEq,zA,zB,zC,zD,zE,zF,zG,zH,zI,zJ, hm, hl]
 apply call_d (f := 71) (fn := Try.f71) (by kernel_rfl) (by rfl)
 ·exact or2_v _ _ _
 ((simp (maxSteps := 1000000) only [VL,VM,↓VG,reduceIte,reduceCtorEq,zA,zB,zC,zD,zE,zF,zG,zH,zI,zJ]); rw [hKn];clear hKn Kn;simp only [QV,reduceIte,reduceCtorEq,Nat.reduceEqDiff])
 (repeat refine Ws ?_)
 refine W_ret ?_
 try simp only [thenQ, blockQ]
 refine own_ret10 rfl ?_ (by rfl)
 simp only [get_cons, frz, vtup, Nat.reduceEqDiff, if_true, if_false, reduceIte]
 rfl
theorem most1_v (a b : Nat) {pm pl : Nat} (M : Mem) (ha : a < 128) (hb : b < 128) (hm : M.H[pm]? = some (.obj [.fn (.func 65) [] []])) (hl : M.H[pl]? = some (.obj [.fn (.func 66) [] []])) :
  VC Try.prog 74 [su a, su b, .ptr pm 0, .ptr pl 0] M (fun r M' => M' = M ∧ r = vi (cmpM a b)) := by
 have la : (bitsI a).length ≤ 1000000 := by have := bitsL_len (s := a); simp [bitsI]; omega
 have lb : (bitsI b).length ≤ 1000000 := by have := bitsL_len (s := b); simp [bitsI]; omega
 refine VC_own' T_ok (f := 74) (fn := Try.f74) (by kernel_rfl) rfl Try.ntmps74 (by rfl) (by rfl) ?_
 ((repeat refine Ws ?_);refine W_regionE T_ok ?_; intro Kn hKn)
 ((simp (maxSteps := 1000000) only [VL,VM,↓VG,reduceIte,reduceCtorEq,zA,zB,zC,zD,zE,zF,zG,zH,zI,zJ]); rw [hKn];clear hKn Kn;simp only [QV,reduceIte,reduceCtorEq,Nat.reduceEqDiff])
 (repeat refine Ws ?_)
 refine W_drawE T_ok [] (by kernel_rfl) (by kernel_rfl) ?_
 intro Kn hKn
 generalize hi : mkPlan _ = infs
 cbv at hi
 subst hi
 simp (maxSteps := 1000000) only [VL,VM,↓VG,reduceIte,reduceCtorEq,zA,zB,zC,zD,zE,zF,zG,zH,zI,zJ, hm, hl]
 apply call_d (f := 65) (fn := Try.f65) (by kernel_rfl) (by rfl)
 ·exact many_v b _ hb
 simp (maxSteps := 1000000) only [VL,VM,↓VG,reduceIte,reduceCtorEq,zA,zB,zC,zD,zE,zF,zG,zH,zI,zJ, hm, hl]
 apply call_d (f := 65) (fn := Try.f65) (by kernel_rfl) (by rfl)
 ·exact many_v a _ ha
 simp (maxSteps := 1000000) only [VL,VM,↓VG,reduceIte,reduceCtorEq,zA,zB,zC,zD,zE,zF,zG,zH,zI,zJ, hm, hl]
 apply call_d (f := 72) (fn := Try.f72) (by kernel_rfl) (by rfl)
 ·exact compare_v _ _ _
 simp (maxSteps := 1000000) only [VL,VM,↓VG,reduceIte,reduceCtorEq,zA,zB,zC,zD,zE,zF,zG,zH,zI,zJ, hm, hl]
 apply call_d (f := 66) (fn := Try.f66) (by kernel_rfl) (by rfl)
 ·exact list_s a _ ha
 simp (maxSteps := 1000000) only [VL,VM,↓VG,reduceIte,reduceCtorEq,zA,zB,zC,zD,zE,zF,zG,zH,zI,zJ, hm, hl]
 apply call_d (f := 66) (fn := Try.f66) (by kernel_rfl) (by rfl)
 ·exact list_s b _ hb
 simp (maxSteps := 1000000) only [VL,VM,↓VG,reduceIte,reduceCtorEq,zA,zB,zC,zD,zE,zF,zG,zH,zI,zJ, hm, hl]
 apply call_d (f := 73) (fn := Try.f73) (by kernel_rfl) (by rfl)
 ·exact scompare_v (bitsI a) (bitsI b) _ la lb
 simp (maxSteps := 1000000) only [VL,VM,↓VG,reduceIte,reduceCtorEq,zA,zB,zC,zD,zE,zF,zG,zH,zI,zJ, hm, hl]
 apply call_d (f := 71) (fn := Try.f71) (by kernel_rfl) (by rfl)
 ·exact or2_v _ _ _
 ((simp (maxSteps := 1000000) only [VL,VM,↓VG,reduceIte,reduceCtorEq,zA,zB,zC,zD,zE,zF,zG,zH,zI,zJ]); rw [hKn];clear hKn Kn;simp only [QV,reduceIte,reduceCtorEq,Nat.reduceEqDiff])
 (repeat refine Ws ?_)
 refine W_ret ?_
 try simp only [thenQ, blockQ]
 refine own_ret10 rfl ?_ (by rfl)
 simp only [get_cons, frz, vtup, Nat.reduceEqDiff, if_true, if_false, reduceIte]
 rfl
theorem firstF_step {cf : Nat → Nat → Int} {l : List Nat} {i x : Nat} (hx : l[i]? = some x) (h0 : i ≠ 0) : firstF cf (l.take (i + 1)) = if cf x (firstF cf (l.take i)) < 0 then x else firstF cf (l.take i) := by
 rw [List.take_add_one, hx]
 cases l with
 | nil => simp at hx
 | cons a l =>
  obtain ⟨j, rfl⟩ : ∃ j, i = j + 1 := ⟨i - 1, by omega⟩
  simp only [List.take_succ_cons, Option.toList, List.cons_append, firstF, List.foldl_append, List.foldl_cons, List.foldl_nil]
  rfl
theorem firstF_zero {cf : Nat → Nat → Int} {l : List Nat} {x : Nat} (hx : l[0]? = some x) : firstF cf (l.take 1) = x := by
 cases l with
 | nil => simp at hx
 | cons a l => simp at hx; subst hx; simp [firstF]
set_option maxHeartbeats 1000000 in
theorem first_v (cf : Nat → Nat → Int) (fv : VV) (l : List Nat) (M : Mem) (hl : l.length ≤ 1000000) (hf : ∀ a b, VCall Try.prog fv [su a, su b] M (fun r M' => M' = M ∧ r = vi (cf a b)) ∨ ¬ (a ∈ l ∧ b ∈ l)) :
  VC Try.prog 67 [sesV l, fv] M (fun r M' => M' = M ∧ r = .tup [su (firstF cf l), vb (decide (0 < l.length))]) := by
 have hmem : ∀ i, i ≠ 0 → i ≤ l.length → firstF cf (l.take i) ∈ l := by
  intro i
  induction i with
  | zero => intro h; exact absurd rfl h
  | succ i ih =>
   intro _ hi
   have hx : l[i]? = some (l[i]'(by omega)) := List.getElem?_eq_getElem (by omega)
   rcases Nat.eq_zero_or_pos i with h0 | h0
   ·subst h0
    rw [firstF_zero hx]
    exact List.mem_of_getElem? hx
   ·rw [firstF_step hx (by omega)]
    split
    ·exact List.mem_of_getElem? hx
    ·exact ih (by omega) (by omega)
 refine VC_own' T_ok (f := 67) (fn := Try.f67) (by kernel_rfl) rfl Try.ntmps67 (by rfl) (by rfl) ?_
 ((repeat refine Ws ?_);refine W_regionE T_ok ?_; intro Kn hKn)
 ((simp (maxSteps := 1000000) only [VL,VM,↓VG,reduceIte,reduceCtorEq,zA,zB,zC,zD,zE,zF,zG,zH,zI,zJ]); rw [hKn];clear hKn Kn;simp only [QV,reduceIte,reduceCtorEq,Nat.reduceEqDiff])
 ((repeat refine Ws ?_);refine W_regionE T_ok ?_; intro Kn hKn)
 ((simp (maxSteps := 1000000) only [VL,VM,↓VG,reduceIte,reduceCtorEq,zA,zB,zC,zD,zE,zF,zG,zH,zI,zJ]); rw [hKn];clear hKn Kn;simp only [QV,reduceIte,reduceCtorEq,Nat.reduceEqDiff])
 ((repeat refine Ws ?_);refine W_regionE T_ok ?_; intro Kn hKn)
 ((simp (maxSteps := 1000000) only [VL,VM,↓VG,reduceIte,reduceCtorEq,zA,zB,zC,zD,zE,zF,zG,zH,zI,zJ]); rw [hKn];clear hKn Kn;simp only [QV,reduceIte,reduceCtorEq,Nat.reduceEqDiff])
 ((repeat refine Ws ?_);refine W_block ?_; (repeat refine Ws ?_)); refine W_loopS (fun i : Nat => [(0, sesV l), (1, fv), (6, su (firstF cf (l.take i))), (9, sesV l), (10, vi l.length), (11, vi i)]) (fun _ => M) (fun i => l.length - i) (fun i => i ≤ l.length) 0 (Nat.zero_le _) ⟨rfl, rfl, rfl, rfl, rfl, rfl, trivial⟩ rfl ?_
 intro i hi
 have k1 : -9223372036854775808 ≤ (i : Int) + 1 ∧ (i : Int) + 1 < 9223372036854775808 := by omega
 ((repeat refine Ws ?_);refine W_regionE T_ok ?_; intro Kn hKn)
 rcases Nat.lt_or_ge i l.length with hlt | hge
 ·have k2 : ((i : Int) < (l.length : Int)) = True := eq_true (by omega)
  have hx : l[i]? = some l[i] := List.getElem?_eq_getElem hlt
  have hx' := map_at (f := seP) hx
  have hxm := List.getElem_mem hlt
  generalize l[i] = u at hx hx' hxm
  ((simp (maxSteps := 1000000) only [VL,VM,↓VG,reduceIte,reduceCtorEq,zA,zB,zC,zD,zE,zF,zG,zH,zI,zJ, k2]); rw [hKn];clear hKn Kn;simp only [QV,reduceIte,reduceCtorEq,Nat.reduceEqDiff])
  ((repeat refine Ws ?_);refine Wt (by first|rfl|simp only [EV,zF,reduceIte]) ?_)
  (((repeat refine Ws ?_);refine W_skip ?_); simp only [QV,reduceIte,reduceCtorEq,Nat.reduceEqDiff])
  ((repeat refine Ws ?_);refine W_block ?_)
  ((repeat refine Ws ?_);refine W_regionE T_ok ?_; intro Kn hKn)
  ((simp (maxSteps := 1000000) only [VL,VM,↓VG,reduceIte,reduceCtorEq,zA,zB,zC,zD,zE,zF,zG,zH,zI,zJ, hx']); rw [hKn];clear hKn Kn;simp only [QV,reduceIte,reduceCtorEq,Nat.reduceEqDiff])
  ((repeat refine Ws ?_);refine W_regionE T_ok ?_; intro Kn hKn)
  rcases Nat.eq_zero_or_pos i with h0 | h0
  ·have k3 : ((i : Int) = 0) = True := eq_true (by omega)
   ((simp (maxSteps := 1000000) only [VL,VM,↓VG,reduceIte,reduceCtorEq,zA,zB,zC,zD,zE,zF,zG,zH,zI,zJ, k3]); rw [hKn];clear hKn Kn;simp only [QV,reduceIte,reduceCtorEq,Nat.reduceEqDiff])
   ((repeat refine Ws ?_);refine Wt (by first|rfl|simp only [EV,zF,reduceIte]) ?_)
   ((repeat refine Ws ?_);refine W_regionE T_ok ?_; intro Kn hKn)
   ((simp (maxSteps := 1000000) only [VL,VM,↓VG,reduceIte,reduceCtorEq,zA,zB,zC,zD,zE,zF,zG,zH,zI,zJ]); rw [hKn];clear hKn Kn;simp only [QV,reduceIte,reduceCtorEq,Nat.reduceEqDiff])
   ((repeat refine Ws ?_);refine W_regionE T_ok ?_; intro Kn hKn)
   ((simp (maxSteps := 1000000) only [VL,VM,↓VG,reduceIte,reduceCtorEq,zA,zB,zC,zD,zE,zF,zG,zH,zI,zJ, k1]); rw [hKn];clear hKn Kn;simp only [QV,reduceIte,reduceCtorEq,Nat.reduceEqDiff])
   refine LoopK.mk (i + 1) (by omega) (by omega) ⟨rfl, rfl, ?_, rfl, rfl, rfl, trivial⟩ rfl
   subst h0
   rw [firstF_zero hx]; rfl
  ·have k3 : ((i : Int) = 0) = False := eq_false (by omega)
   have hst := firstF_step (cf := cf) hx (by omega)
   have hm := hmem i (by omega) hi
   generalize firstF cf (l.take i) = o at hst hm ⊢
   simp (maxSteps := 1000000) only [VL,VM,↓VG,reduceIte,reduceCtorEq,zA,zB,zC,zD,zE,zF,zG,zH,zI,zJ, k3]
   refine ((hf u o).resolve_right (fun h => h ⟨hxm, hm⟩)).mono ?_
   rintro _ _ ⟨rfl, rfl⟩
   by_cases hc : cf u o < 0
   ·rw [if_pos hc] at hst
    ((simp (maxSteps := 1000000) only [VL,VM,↓VG,reduceIte,reduceCtorEq,zA,zB,zC,zD,zE,zF,zG,zH,zI,zJ, hc]); rw [hKn];clear hKn Kn;simp only [QV,reduceIte,reduceCtorEq,Nat.reduceEqDiff])
    ((repeat refine Ws ?_);refine Wt (by first|rfl|simp only [EV,zF,reduceIte]) ?_)
    ((repeat refine Ws ?_);refine W_regionE T_ok ?_; intro Kn hKn)
    ((simp (maxSteps := 1000000) only [VL,VM,↓VG,reduceIte,reduceCtorEq,zA,zB,zC,zD,zE,zF,zG,zH,zI,zJ]); rw [hKn];clear hKn Kn;simp only [QV,reduceIte,reduceCtorEq,Nat.reduceEqDiff])
    ((repeat refine Ws ?_);refine W_regionE T_ok ?_; intro Kn hKn)
    ((simp (maxSteps := 1000000) only [VL,VM,↓VG,reduceIte,reduceCtorEq,zA,zB,zC,zD,zE,zF,zG,zH,zI,zJ, k1]); rw [hKn];clear hKn Kn;simp only [QV,reduceIte,reduceCtorEq,Nat.reduceEqDiff])
    refine LoopK.mk (i + 1) (by omega) (by omega) ⟨rfl, rfl, ?_, rfl, rfl, rfl, trivial⟩ rfl
    rw [hst]; rfl
   ·rw [if_neg hc] at hst
    ((simp (maxSteps := 1000000) only [VL,VM,↓VG,reduceIte,reduceCtorEq,zA,zB,zC,zD,zE,zF,zG,zH,zI,zJ, hc]); rw [hKn];clear hKn Kn;simp only [QV,reduceIte,reduceCtorEq,Nat.reduceEqDiff])
    ((repeat refine Ws ?_);refine Wf (by first|rfl|simp only [EV,zF,reduceIte]) ?_)
    (((repeat refine Ws ?_);refine W_skip ?_); simp only [QV,reduceIte,reduceCtorEq,Nat.reduceEqDiff])
    ((repeat refine Ws ?_);refine W_regionE T_ok ?_; intro Kn hKn)
    ((simp (maxSteps := 1000000) only [VL,VM,↓VG,reduceIte,reduceCtorEq,zA,zB,zC,zD,zE,zF,zG,zH,zI,zJ, k1]); rw [hKn];clear hKn Kn;simp only [QV,reduceIte,reduceCtorEq,Nat.reduceEqDiff])
    refine LoopK.mk (i + 1) (by omega) (by omega) ⟨rfl, rfl, ?_, rfl, rfl, rfl, trivial⟩ rfl
    rw [hst]; rfl
 ·have k2 : ((i : Int) < (l.length : Int)) = False := eq_false (by omega)
  obtain rfl : i = l.length := by omega
  rw [List.take_length]
  ((simp (maxSteps := 1000000) only [VL,VM,↓VG,reduceIte,reduceCtorEq,zA,zB,zC,zD,zE,zF,zG,zH,zI,zJ, k2]); rw [hKn];clear hKn Kn;simp only [QV,reduceIte,reduceCtorEq,Nat.reduceEqDiff])
  ((repeat refine Ws ?_);refine Wf (by first|rfl|simp only [EV,zF,reduceIte]) ?_)
  (((repeat refine Ws ?_);refine W_exit ?_); simp only [QV,reduceIte,reduceCtorEq,Nat.reduceEqDiff])
  ((repeat refine Ws ?_);refine W_regionE T_ok ?_; intro Kn hKn)
  ((simp (maxSteps := 1000000) only [VL,VM,↓VG,reduceIte,reduceCtorEq,zA,zB,zC,zD,zE,zF,zG,zH,zI,zJ]); rw [hKn];clear hKn Kn;simp only [QV,reduceIte,reduceCtorEq,Nat.reduceEqDiff])
  (repeat refine Ws ?_)
  refine W_ret ?_
  try simp only [thenQ, blockQ]
  refine own_ret0 (vs := [su (firstF cf l), vb (decide ((0 : Int) < (l.length : Int)))]) rfl rfl rfl ⟨rfl, ?_⟩
  have : decide ((0 : Int) < (l.length : Int)) = decide (0 < l.length) := by
   by_cases h : 0 < l.length
   ·rw [decide_eq_true h, decide_eq_true (by omega)]
   ·rw [decide_eq_false h, decide_eq_false (by omega)]
  rw [this]
  rfl
end Go.Proofs.Ythcicaelnchfdaa.Vm

/- What can be served, as a map and as lists, on values. (Vm) -/
namespace Go.Proofs.Ythcicaelnchfdaa.Vm
open Go Go.Proofs
def mapK (y : Ya) (k : Nat) : List (List Int × VV) := (List.range k).map fun (s : Nat) => ([(s : Int)], vb (canS y s))
theorem mapK_set (y : Ya) (k : Nat) : assocSet [(k : Int)] (vb (canS y k)) (mapK y k) = mapK y (k + 1) := by
 have key : ∀ (es : List (List Int × VV)), (∀ p ∈ es, p.1 ≠ [(k : Int)]) → ∀ v, assocSet [(k : Int)] v es = es ++ [([(k : Int)], v)] := by
  intro es
  induction es with
  | nil => intro _ v; rfl
  | cons p es ih =>
   intro h v
   obtain ⟨ks, u⟩ := p
   have h1 : ks ≠ [(k : Int)] := h (ks, u) (by simp)
   simp only [assocSet, decide_eq_false h1, cond_false, List.cons_append]
   rw [ih (fun p hp => h p (by simp [hp]))]
 rw [key _ (fun p hp => ?_)]
 ·simp [mapK, List.range_succ]
 ·obtain ⟨s, hs, rfl⟩ := List.mem_map.1 hp
  have := List.mem_range.1 hs
  intro e
  simp only [List.cons.injEq, and_true] at e
  omega
theorem served_m {y : Ya} (hy : YaV y) (M : Mem) : VC Try.prog 69 [yardV y] M (fun r M' => M' = ⟨M.H ++ [.obj (yardC y), .mpo (.int .u8) (mapK y (2 ^ y.carts.length))], M.lg⟩ ∧ r = .mp (M.H.length + 1)) := by
 obtain ⟨n, hn⟩ : ∃ n, n = y.carts.length := ⟨_, rfl⟩
 have hm7 := hy.m1
 rw [← hn] at hm7
 have h2n : 2 ^ n ≤ 128 := Nat.pow_le_pow_right (n := 2) (by decide) hm7
 have hR0 := ry0_ok hy
 rw [← hn]
 refine VC_esc T_ok (f := 69) (fn := Try.f69) (by kernel_rfl) rfl Try.ntmps69 (by rfl) (by rfl) ?_
 ((repeat refine Ws ?_);refine W_regionE T_ok ?_; intro Kn hKn)
 ((simp (maxSteps := 1000000) only [VL,VM,↓VG,reduceIte,reduceCtorEq,zA,zB,zC,zD,zE,zF,zG,zH,zI,zJ]); rw [hKn];clear hKn Kn;simp only [QV,reduceIte,reduceCtorEq,Nat.reduceEqDiff])
 ((repeat refine Ws ?_);refine W_regionE T_ok ?_; intro Kn hKn)
 ((simp (maxSteps := 1000000) only [VL,VM,↓VG,reduceIte,reduceCtorEq,zA,zB,zC,zD,zE,zF,zG,zH,zI,zJ]); rw [hKn];clear hKn Kn;simp only [QV,reduceIte,reduceCtorEq,Nat.reduceEqDiff])
 ((repeat refine Ws ?_);refine W_regionE T_ok ?_; intro Kn hKn)
 simp (maxSteps := 1000000) only [VL,VM,↓VG,reduceIte,reduceCtorEq,zA,zB,zC,zD,zE,zF,zG,zH,zI,zJ]
 apply call_eq (f := 61) (fn := Try.f61) (by kernel_rfl) (by rfl)
 ·exact soonest_v hR0 _
 ((simp (maxSteps := 1000000) only [VL,VM,↓VG,reduceIte,reduceCtorEq,zA,zB,zC,zD,zE,zF,zG,zH,zI,zJ]); rw [hKn];clear hKn Kn;simp only [QV,reduceIte,reduceCtorEq,Nat.reduceEqDiff])
 ((repeat refine Ws ?_);refine W_regionE T_ok ?_; intro Kn hKn)
 ((simp (maxSteps := 1000000) only [VL,VM,↓VG,reduceIte,reduceCtorEq,zA,zB,zC,zD,zE,zF,zG,zH,zI,zJ, ← hn, i_shl, hm7]); rw [hKn];clear hKn Kn;simp only [QV,reduceIte,reduceCtorEq,Nat.reduceEqDiff])
 ((repeat refine Ws ?_);refine W_block ?_; (repeat refine Ws ?_)); refine W_loopS (fun s : Nat => [(3, .mp (M.H.length + 1)), (4, .ip ((soonestL (ry0 y)).map (PV.int .i64))), (13, vi ((2 ^ n : Nat) : Int)), (14, vi s)]) (fun s => ⟨M.H ++ [.obj (yardC y), .mpo (.int .u8) (mapK y s)], M.lg⟩) (fun s => 2 ^ n - s) (fun s => s ≤ 2 ^ n) 0 (Nat.zero_le _) ⟨rfl, rfl, rfl, rfl, trivial⟩ rfl ?_
 intro s hs
 have k1 : -9223372036854775808 ≤ (s : Int) + 1 ∧ (s : Int) + 1 < 9223372036854775808 := by omega
 have hset := mapK_set y s
 ((repeat refine Ws ?_);refine W_regionE T_ok ?_; intro Kn hKn)
 rcases Nat.lt_or_ge s (2 ^ n) with hlt | hge
 ·have k2 : ((s : Int) < ((2 ^ n : Nat) : Int)) = True := eq_true (by omega)
  have hs128 : s < 128 := by omega
  have hs256 : s < 256 := by omega
  have hsg := soon_get (R := ry0 y) hs128
  have hcan : decide ((soonestL (ry0 y)).getD s 0 < 1048576) = canS y s := rfl
  ((simp (maxSteps := 1000000) only [VL,VM,↓VG,reduceIte,reduceCtorEq,zA,zB,zC,zD,zE,zF,zG,zH,zI,zJ, k2]); rw [hKn];clear hKn Kn;simp only [QV,reduceIte,reduceCtorEq,Nat.reduceEqDiff])
  ((repeat refine Ws ?_);refine Wt (by first|rfl|simp only [EV,zF,reduceIte]) ?_)
  (((repeat refine Ws ?_);refine W_skip ?_); simp only [QV,reduceIte,reduceCtorEq,Nat.reduceEqDiff])
  ((repeat refine Ws ?_);refine W_block ?_)
  ((repeat refine Ws ?_);refine W_regionE T_ok ?_; intro Kn hKn)
  ((simp (maxSteps := 1000000) only [VL,VM,↓VG,reduceIte,reduceCtorEq,zA,zB,zC,zD,zE,zF,zG,zH,zI,zJ]); rw [hKn];clear hKn Kn;simp only [QV,reduceIte,reduceCtorEq,Nat.reduceEqDiff])
  ((repeat refine Ws ?_);refine W_regionE T_ok ?_; intro Kn hKn)
  ((simp (maxSteps := 1000000) only [VL,VM,↓VG,reduceIte,reduceCtorEq,zA,zB,zC,zD,zE,zF,zG,zH,zI,zJ, c_su, hs256, hs128, hsg, hcan, hset]); rw [hKn];clear hKn Kn;simp only [QV,reduceIte,reduceCtorEq,Nat.reduceEqDiff])
  ((repeat refine Ws ?_);refine W_regionE T_ok ?_; intro Kn hKn)
  ((simp (maxSteps := 1000000) only [VL,VM,↓VG,reduceIte,reduceCtorEq,zA,zB,zC,zD,zE,zF,zG,zH,zI,zJ, k1]); rw [hKn];clear hKn Kn;simp only [QV,reduceIte,reduceCtorEq,Nat.reduceEqDiff])
  exact LoopK.mk (s + 1) (by omega) (by omega) ⟨rfl, rfl, rfl, rfl, trivial⟩ rfl
 ·have k2 : ((s : Int) < ((2 ^ n : Nat) : Int)) = False := eq_false (by omega)
  obtain rfl : s = 2 ^ n := by omega
  ((simp (maxSteps := 1000000) only [VL,VM,↓VG,reduceIte,reduceCtorEq,zA,zB,zC,zD,zE,zF,zG,zH,zI,zJ, k2]); rw [hKn];clear hKn Kn;simp only [QV,reduceIte,reduceCtorEq,Nat.reduceEqDiff])
  ((repeat refine Ws ?_);refine Wf (by first|rfl|simp only [EV,zF,reduceIte]) ?_)
  (((repeat refine Ws ?_);refine W_exit ?_); simp only [QV,reduceIte,reduceCtorEq,Nat.reduceEqDiff])
  ((repeat refine Ws ?_);refine W_regionE T_ok ?_; intro Kn hKn)
  ((simp (maxSteps := 1000000) only [VL,VM,↓VG,reduceIte,reduceCtorEq,zA,zB,zC,zD,zE,zF,zG,zH,zI,zJ]); rw [hKn];clear hKn Kn;simp only [QV,reduceIte,reduceCtorEq,Nat.reduceEqDiff])
  (repeat refine Ws ?_)
  refine W_ret ⟨.inr rfl, rfl, [.mp (M.H.length + 1)], rfl, ⟨M.H.length + 1, by simp [vtup, frz, refs], by omega⟩, rfl, rfl⟩
def pickK (can : Bool) (p : List Int × VV) : Option Nat := match p with
 | ([k], .p (.bool b)) => if b = can then some k.toNat else none
 | _ => none
theorem mapK_pick (y : Ya) (can : Bool) (k : Nat) : (mapK y k).filterMap (pickK can) = (List.range k).filter fun s => canS y s == can := by
 unfold mapK
 rw [List.filterMap_map, ← List.filterMap_eq_filter]
 congr 1
 funext s
 simp only [Function.comp, pickK, Int.toNat_natCast, Option.guard]
 by_cases h : canS y s = can
 ·rw [if_pos h, if_pos (by simpa using h)]
 ·rw [if_neg h, if_neg (by simpa using h)]
theorem eql_bool (a b : Bool) : vbin T BinOp.eql 4 (vb a) (vb b) = some (vb (a == b)) := by
 cases a <;> cases b <;> kernel_rfl
set_option maxHeartbeats 1000000 in
theorem sets_v (y : Ya) (can : Bool) (k : Nat) (hk : k ≤ 128) {id : Nat} (M : Mem) (hid : M.H[id]? = some (.mpo (.int .u8) (mapK y k))) : VC Try.prog 68 [.mp id, vb can] M (fun r M' => M' = ⟨M.H.set id .dead, M.lg⟩ ∧ ∃ l : List Nat, l.Perm ((List.range k).filter fun s => canS y s == can) ∧ r = sesV l) := by
 have hidl := (List.getElem?_eq_some_iff.1 hid).1
 have hid2 : (M.H ++ [VObj.clm 0 1])[id]? = some (.mpo (.int .u8) (mapK y k)) := app_get hid _
 have hset : ∀ (X : List VObj), (M.H ++ X).set id .dead = M.H.set id .dead ++ X := fun X => List.set_append_left _ _ hidl
 have hsl : (M.H.set id .dead).length = M.H.length := by simp
 refine VC_own' T_ok (f := 68) (fn := Try.f68) (by kernel_rfl) rfl Try.ntmps68 (by rfl) (by rfl) ?_
 ((repeat refine Ws ?_);refine W_regionE T_ok ?_; intro Kn hKn)
 ((simp (maxSteps := 1000000) only [VL,VM,↓VG,reduceIte,reduceCtorEq,zA,zB,zC,zD,zE,zF,zG,zH,zI,zJ]); rw [hKn];clear hKn Kn;simp only [QV,reduceIte,reduceCtorEq,Nat.reduceEqDiff])
 ((repeat refine Ws ?_);refine W_regionE T_ok ?_; intro Kn hKn)
 ((simp (maxSteps := 1000000) only [VL,VM,↓VG,reduceIte,reduceCtorEq,zA,zB,zC,zD,zE,zF,zG,zH,zI,zJ]); rw [hKn];clear hKn Kn;simp only [QV,reduceIte,reduceCtorEq,Nat.reduceEqDiff])
 refine W_tok (t := 5) (k := 1) rfl ?_
 refine W_seq ?_
 refine W_mapRange (t8 := 8) (t9 := 9) (t10 := 10) (t11 := 11) (t12 := 12) (M := ⟨M.H ++ [.clm 0 1], M.lg⟩) T_ok (tk := 91) (te := 4) (id := id) (kk := .u8) (es := mapK y k) rfl ?hx ?hid (fun p hp => by obtain ⟨s, _, rfl⟩ := List.mem_map.1 hp; exact ⟨_, rfl⟩) (by kernel_rfl) ?ht
  (fun l : List Nat => [(1, vb can), (5, .so M.H.length 1 (l.map seP)), (9, .ptr (M.H.length + 1) 0)]) (fun l => ⟨M.H.set id .dead ++ [.clm l.length 1, .dead], M.lg⟩) (fun l vis => l = vis.filterMap (pickK can)) [] rfl ?hE0 ?hN0 ?hE9 ?hEk ?hNd ?hend ?hround
 case ht => decide
 case hx => rfl
 case hid => exact hid2
 case hE0 => exact ⟨rfl, rfl, by simp [get_cons, Mem.push], trivial⟩
 case hN0 => simp [Mem.push, hset]
 case hE9 => intro l; simp [get_cons, Mem.push]
 case hEk =>
  intro l p hp
  simp only [List.mem_cons, List.not_mem_nil, or_false] at hp
  rcases hp with rfl | rfl | rfl <;> simp
 case hNd =>
  intro l vis hg
  refine ⟨?_, ?_⟩
  ·show (M.H.set id .dead ++ _)[id]? = _
   rw [List.getElem?_append_left (by rw [hsl]; exact hidl), List.getElem?_set_self hidl]
  ·show (M.H.set id .dead ++ [.clm l.length 1, .dead])[(M.H ++ [VObj.clm 0 1]).length]? = _
   rw [List.length_append, ← hsl, hget]; rfl
 case hend =>
  intro l vis hperm hg e' hS
  simp only [thenQ.eq_1]
  refine WCode.weak (e' := [(1, vb can), (5, .so M.H.length 1 (l.map seP)), (9, .ptr (M.H.length + 1) 0)]) ?_ hS.ok
  have hlp : l.Perm ((List.range k).filter fun s => canS y s == can) := by
   rw [← mapK_pick, hg]
   exact hperm.filterMap _
  ((repeat refine Ws ?_);refine W_regionE T_ok ?_; intro Kn hKn)
  ((simp (maxSteps := 1000000) only [VL,VM,↓VG,reduceIte,reduceCtorEq,zA,zB,zC,zD,zE,zF,zG,zH,zI,zJ]); rw [hKn];clear hKn Kn;simp only [QV,reduceIte,reduceCtorEq,Nat.reduceEqDiff])
  (repeat refine Ws ?_)
  refine W_ret ?_
  exact ⟨.inr rfl, rfl, ⟨[], by simp, by simp⟩, M.H.set id .dead, _, rfl, hsl, [.so M.H.length 1 (l.map seP)], rfl, sesV l, rfl, by simp [refs], rfl, l, hlp, rfl⟩
 case hround =>
  intro l vis n v rest hperm hg
  have hmem : ([n], v) ∈ mapK y k := hperm.subset (by simp)
  obtain ⟨s, hs, hsv⟩ := List.mem_map.1 hmem
  have hsk := List.mem_range.1 hs
  simp only [Prod.mk.injEq, List.cons.injEq, and_true] at hsv
  obtain ⟨rfl, rfl⟩ := hsv
  have hll : l.length ≤ 128 := by
   have h1 := hperm.length_eq
   have h2 : l.length ≤ vis.length := by rw [hg]; exact List.length_filterMap_le _ _
   simp [mapK] at h1
   omega
  have q1 : ((l.length + 1) * 1 ≤ 140737488355328) = True := eq_true (by omega)
  have q1' : (l.length + 1 ≤ 140737488355328) = True := eq_true (by omega)
  have hpick : (vis ++ [([(s : Int)], vb (canS y s))]).filterMap (pickK can) = if canS y s = can then l ++ [s] else l := by
   rw [List.filterMap_append, ← hg]
   simp only [List.filterMap_cons, List.filterMap_nil, pickK, Int.toNat_natCast]
   by_cases h : canS y s = can
   ·rw [if_pos h]; simp [h]
   ·rw [if_neg h]; simp [h]
  simp (maxSteps := 1000000) only [VL,VM,↓VG,reduceIte,reduceCtorEq,zA,zB,zC,zD,zE,zF,zG,zH,zI,zJ]
  ((repeat refine Ws ?_);refine W_regionE T_ok ?_; intro Kn hKn)
  have hgl : ∀ X, (M.H.set id .dead ++ X)[M.H.length]? = X[0]? := fun X => by
   have := hget0 (M.H.set id .dead) X
   rwa [hsl] at this
  have hsl2 : ∀ X o, (M.H.set id .dead ++ X).set M.H.length o = M.H.set id .dead ++ X.set 0 o := fun X o => by
   have := hset0 (M.H.set id .dead) X o
   rwa [hsl] at this
  by_cases hc : canS y s = can
  ·rw [if_pos hc] at hpick
   have hc' : (canS y s == can) = true := by simpa using hc
   ((simp (maxSteps := 1000000) only [VL,VM,↓VG,reduceIte,reduceCtorEq,zA,zB,zC,zD,zE,zF,zG,zH,zI,zJ, eql_bool, hc']); rw [hKn];clear hKn Kn;simp only [QV,reduceIte,reduceCtorEq,Nat.reduceEqDiff])
   ((repeat refine Ws ?_);refine Wt (by first|rfl|simp only [EV,zF,reduceIte]) ?_)
   ((repeat refine Ws ?_);refine W_regionE T_ok ?_; intro Kn hKn)
   ((simp (maxSteps := 1000000) only [VL,VM,↓VG,reduceIte,reduceCtorEq,zA,zB,zC,zD,zE,zF,zG,zH,zI,zJ, hgl, hsl2, q1, q1']); rw [hKn];clear hKn Kn;simp only [QV,reduceIte,reduceCtorEq,Nat.reduceEqDiff])
   exact ⟨trivial, trivial, l ++ [s], hpick.symm, ⟨rfl, by simp [get_cons, seP], rfl, trivial⟩, by simp⟩
  ·rw [if_neg hc] at hpick
   have hc' : (canS y s == can) = false := by simpa using hc
   ((simp (maxSteps := 1000000) only [VL,VM,↓VG,reduceIte,reduceCtorEq,zA,zB,zC,zD,zE,zF,zG,zH,zI,zJ, eql_bool, hc']); rw [hKn];clear hKn Kn;simp only [QV,reduceIte,reduceCtorEq,Nat.reduceEqDiff])
   ((repeat refine Ws ?_);refine Wf (by first|rfl|simp only [EV,zF,reduceIte]) ?_)
   (((repeat refine Ws ?_);refine W_skip ?_); simp only [QV,reduceIte,reduceCtorEq,Nat.reduceEqDiff])
   exact ⟨trivial, trivial, l, hpick.symm, ⟨rfl, rfl, rfl, trivial⟩, rfl⟩
end Go.Proofs.Ythcicaelnchfdaa.Vm
