/- A part of the proofs about the chapter of the ramps; it states no condition of its own. -/
import Derived.Test.YthcicaelnchfdaaB19
import Derived.Test.YthcicaelnchfdaaB21
import Derived.Test.YthcicaelnchfdaaB36
import Derived.Test.YthcicaelnchfdaaB37
import Derived.Test.YthcicaelnchfdaaB39
set_option linter.unusedVariables false
set_option linter.unusedSimpArgs false
open Int renaming reduceLE → zA, reduceLT → zB, reduceToNat → zC, reduceNeg → zD
open Nat renaming reduceLT → zE, reduceEqDiff → zF, reduceAdd → zG, reduceSub → zH, reduceMul → zI, reduceLeDiff → zJ
/- The search for a plan that is away sooner, on values. (Vm) -/
namespace Go.Proofs.Ythcicaelnchfdaa.Vm
open Go Go.Proofs
theorem any_snoc {n : Nat} {f : Nat → Bool} : (List.range (n + 1)).any f = ((List.range n).any f || f n) := by
 rw [List.range_succ, List.any_append]; simp
theorem any_hitN {n i : Nat} {f : Nat → Bool} (h : i < n) (hf : f i = true) : (List.range n).any f = true := List.any_eq_true.2 ⟨i, List.mem_range.2 h, hf⟩
set_option maxHeartbeats 4000000 in
set_option maxRecDepth 100000 in
theorem sooner_v {y : Ya} (hy : YaV y) (lens : y.ramps.length ≤ 1000000 ∧ y.carts.length ≤ 1000000 ∧ ∀ c ∈ y.carts, c.ramps.length ≤ 1000000) (best : List St) (last : Int) (mn : Nat) (hmn : mn ≤ 1000) (hb : ∀ l, Fe y l → lastV y l = last → l.length ≤ best.length) :
  ∀ (k : Nat) (l : List St) (M : Mem), l.length + k = y.carts.length → VC Try.prog 35 [yardV y, stsV l, stsV best, vi last, vi mn] M (fun r M' => M' = M ∧ r = vb (soonB y best last mn k l)) := by
 intro k
 induction k with
 | zero =>
  intro l M hlk
  have hm1 := hy.m1
  have hp : l.length ≤ 1000000 := by omega
  have p1 : ((l.length : Int) = (y.carts.length : Int)) = True := eq_true (by omega)
  refine VC_own' T_ok (f := 35) (fn := Try.f35) (by kernel_rfl) rfl Try.ntmps35 (by rfl) (by rfl) ?_
  ((repeat refine Ws ?_);refine W_regionE T_ok ?_; intro Kn hKn)
  ((simp (maxSteps := 1000000) only [VL,VM,↓VG,reduceIte,reduceCtorEq,zA,zB,zC,zD,zE,zF,zG,zH,zI,zJ]); rw [hKn]; clear hKn; clear Kn; simp only [thenQ.eq_1, thenQ.eq_2, blockQ.eq_1, blockQ.eq_2, reduceIte, reduceCtorEq, Nat.reduceEqDiff])
  ((repeat refine Ws ?_);refine W_regionE T_ok ?_; intro Kn hKn)
  ((simp (maxSteps := 1000000) only [VL,VM,↓VG,reduceIte,reduceCtorEq,zA,zB,zC,zD,zE,zF,zG,zH,zI,zJ, p1]); rw [hKn]; clear hKn; clear Kn; simp only [thenQ.eq_1, thenQ.eq_2, blockQ.eq_1, blockQ.eq_2, reduceIte, reduceCtorEq, Nat.reduceEqDiff])
  ((repeat refine Ws ?_);refine Wt (by first|rfl|simp only [EV,zF,reduceIte]) ?_)
  by_cases he : plErr y l = 0
  ·have pv := (plErr_ok.1 he).2
   have hk : ∀ i, i < l.length → 1 ≤ tkAt (longest y) i ∧ tkAt (longest y) i ≤ 480 := fun i hi => by
    have hic : i < y.carts.length := by omega
    rw [longest_at hic]
    have c := hy.ct _ (ctAt_mem hic)
    have := c.l0
    have := c.lh
    have := c.h1
    omega
   have hf : ∀ i, i < l.length → 0 ≤ (stAt l i).from_ ∧ (stAt l i).from_ ≤ 480 := fun i hi => ⟨pv.f0 i hi, pv.f1 i hi⟩
   have hs := hy.s0
   have hs1 := hy.s1
   have hll : (longest y).length = y.carts.length := by simp [longest]
   ·skip
    (repeat refine Ws ?_)
    refine W_drawE T_ok [] (by kernel_rfl) (by kernel_rfl) ?_
    intro Kn hKn
    generalize hi : mkPlan _ = infs
    cbv at hi
    subst hi
    simp (maxSteps := 1000000) only [VL,VM,↓VG,reduceIte,reduceCtorEq,zA,zB,zC,zD,zE,zF,zG,zH,zI,zJ]
    apply call_d (f := 49) (fn := Try.f49) (by kernel_rfl) (by rfl)
    ·exact checkPlan_v y l _ lens.1 lens.2.1 lens.2.2 hp
    rw [he]
    simp (maxSteps := 1000000) only [VL,VM,↓VG,reduceIte,reduceCtorEq,zA,zB,zC,zD,zE,zF,zG,zH,zI,zJ]
    apply call_d (f := 75) (fn := Try.f75) (by kernel_rfl) (by rfl)
    ·exact longest_v y _ lens.2.1
    simp (maxSteps := 1000000) only [VL,VM,↓VG,reduceIte,reduceCtorEq,zA,zB,zC,zD,zE,zF,zG,zH,zI,zJ]
    apply call_d (f := 38) (fn := Try.f38) (by kernel_rfl) (by rfl)
    ·exact held_v y l (longest y) _ hp (by omega) (by omega) (by omega) pv.r0 pv.r1 (fun i hi => by have := hf i hi; omega) (fun i hi => by have := hk i hi; omega)
    ((simp (maxSteps := 1000000) only [VL,VM,↓VG,reduceIte,reduceCtorEq,zA,zB,zC,zD,zE,zF,zG,zH,zI,zJ]); rw [hKn]; clear hKn; clear Kn; simp only [thenQ.eq_1, thenQ.eq_2, blockQ.eq_1, blockQ.eq_2, reduceIte, reduceCtorEq, Nat.reduceEqDiff])
    cases hh : heldB y l (longest y) with
    | false =>
     ((repeat refine Ws ?_);refine Wt (by first|rfl|simp only [EV,zF,reduceIte]) ?_)
     ((repeat refine Ws ?_);refine W_regionE T_ok ?_; intro Kn hKn)
     ((simp (maxSteps := 1000000) only [VL,VM,↓VG,reduceIte,reduceCtorEq,zA,zB,zC,zD,zE,zF,zG,zH,zI,zJ]); rw [hKn]; clear hKn; clear Kn; simp only [thenQ.eq_1, thenQ.eq_2, blockQ.eq_1, blockQ.eq_2, reduceIte, reduceCtorEq, Nat.reduceEqDiff])
     (repeat refine Ws ?_)
     refine W_ret ?_
     try simp only [thenQ, blockQ]
     refine own_ret1 rfl ?_ (by rfl)
     simp only [get_cons, frz, vtup, Nat.reduceEqDiff, if_true, if_false, reduceIte]
     rw [soonB, endB, if_neg (by rw [hh]; simp)]
    | true =>
     have fe : Fe y l := (fe_iff hy).2 ⟨pv, hh⟩
     ((repeat refine Ws ?_);refine Wf (by first|rfl|simp only [EV,zF,reduceIte]) ?_)
     (((repeat refine Ws ?_);refine W_skip ?_); simp only [thenQ.eq_1, thenQ.eq_2, blockQ.eq_1, blockQ.eq_2, reduceIte, reduceCtorEq, Nat.reduceEqDiff])
     ((repeat refine Ws ?_);refine W_regionE T_ok ?_; intro Kn hKn)
     simp (maxSteps := 1000000) only [VL,VM,↓VG,reduceIte,reduceCtorEq,zA,zB,zC,zD,zE,zF,zG,zH,zI,zJ]
     apply call_eq (f := 40) (fn := Try.f40) (by kernel_rfl) (by rfl)
     ·exact last_v y l _ hp (by omega) (fun i hi => by have := hf i hi; have := hk i hi; rw [longest_at (by omega)] at this; omega)
     ((simp (maxSteps := 1000000) only [VL,VM,↓VG,reduceIte,reduceCtorEq,zA,zB,zC,zD,zE,zF,zG,zH,zI,zJ]); rw [hKn]; clear hKn; clear Kn; simp only [thenQ.eq_1, thenQ.eq_2, blockQ.eq_1, blockQ.eq_2, reduceIte, reduceCtorEq, Nat.reduceEqDiff])
     have hE : soonB y best last mn 0 l = (decide (lastV y l < last) || (decide (lastV y l = last) && beforeB l best)) := by
      rw [soonB, endB, if_pos ⟨he, hh⟩]
     rw [hE]
     ((repeat refine Ws ?_);refine W_regionE T_ok ?_; intro Kn hKn)
     by_cases q1 : lastV y l < last
     ·((simp (maxSteps := 1000000) only [VL,VM,↓VG,reduceIte,reduceCtorEq,zA,zB,zC,zD,zE,zF,zG,zH,zI,zJ, q1]); rw [hKn]; clear hKn; clear Kn; simp only [thenQ.eq_1, thenQ.eq_2, blockQ.eq_1, blockQ.eq_2, reduceIte, reduceCtorEq, Nat.reduceEqDiff])
      (repeat refine Ws ?_)
      refine W_ret ?_
      try simp only [thenQ, blockQ]
      refine own_ret1 rfl ?_ (by rfl)
      simp only [get_cons, frz, vtup, Nat.reduceEqDiff, if_true, if_false, reduceIte]
      rw [decide_eq_true q1]; rfl
     ·by_cases q2 : lastV y l = last
      ·simp (maxSteps := 1000000) only [VL,VM,↓VG,reduceIte,reduceCtorEq,zA,zB,zC,zD,zE,zF,zG,zH,zI,zJ, q2, Int.lt_irrefl]
       apply call_eq (f := 76) (fn := Try.f76) (by kernel_rfl) (by rfl)
       ·exact before_v l best _ hp (hb l fe q2)
       ((simp (maxSteps := 1000000) only [VL,VM,↓VG,reduceIte,reduceCtorEq,zA,zB,zC,zD,zE,zF,zG,zH,zI,zJ]); rw [hKn]; clear hKn; clear Kn; simp only [thenQ.eq_1, thenQ.eq_2, blockQ.eq_1, blockQ.eq_2, reduceIte, reduceCtorEq, Nat.reduceEqDiff])
       (repeat refine Ws ?_)
       refine W_ret ?_
       try simp only [thenQ, blockQ]
       refine own_ret1 rfl ?_ (by rfl)
       simp only [get_cons, frz, vtup, Nat.reduceEqDiff, if_true, if_false, reduceIte]
       rw [decide_eq_false q1, decide_eq_true q2]; rfl
      ·((simp (maxSteps := 1000000) only [VL,VM,↓VG,reduceIte,reduceCtorEq,zA,zB,zC,zD,zE,zF,zG,zH,zI,zJ, q1, q2]); rw [hKn]; clear hKn; clear Kn; simp only [thenQ.eq_1, thenQ.eq_2, blockQ.eq_1, blockQ.eq_2, reduceIte, reduceCtorEq, Nat.reduceEqDiff])
       (repeat refine Ws ?_)
       refine W_ret ?_
       try simp only [thenQ, blockQ]
       refine own_ret1 rfl ?_ (by rfl)
       simp only [get_cons, frz, vtup, Nat.reduceEqDiff, if_true, if_false, reduceIte]
       rw [decide_eq_false q1, decide_eq_false q2]; rfl
  ·skip
   (repeat refine Ws ?_)
   refine W_drawE T_ok [] (by kernel_rfl) (by kernel_rfl) ?_
   intro Kn hKn
   generalize hi : mkPlan _ = infs
   cbv at hi
   subst hi
   simp (maxSteps := 1000000) only [VL,VM,↓VG,reduceIte,reduceCtorEq,zA,zB,zC,zD,zE,zF,zG,zH,zI,zJ]
   apply call_d (f := 49) (fn := Try.f49) (by kernel_rfl) (by rfl)
   ·exact checkPlan_v y l _ lens.1 lens.2.1 lens.2.2 hp
   ((simp (maxSteps := 1000000) only [VL,VM,↓VG,reduceIte,reduceCtorEq,zA,zB,zC,zD,zE,zF,zG,zH,zI,zJ, he]); rw [hKn]; clear hKn; clear Kn; simp only [thenQ.eq_1, thenQ.eq_2, blockQ.eq_1, blockQ.eq_2, reduceIte, reduceCtorEq, Nat.reduceEqDiff])
   ((repeat refine Ws ?_);refine Wt (by first|rfl|simp only [EV,zF,reduceIte]) ?_)
   ((repeat refine Ws ?_);refine W_regionE T_ok ?_; intro Kn hKn)
   ((simp (maxSteps := 1000000) only [VL,VM,↓VG,reduceIte,reduceCtorEq,zA,zB,zC,zD,zE,zF,zG,zH,zI,zJ]); rw [hKn]; clear hKn; clear Kn; simp only [thenQ.eq_1, thenQ.eq_2, blockQ.eq_1, blockQ.eq_2, reduceIte, reduceCtorEq, Nat.reduceEqDiff])
   (repeat refine Ws ?_)
   refine W_ret ?_
   try simp only [thenQ, blockQ]
   refine own_ret1 rfl ?_ (by rfl)
   simp only [get_cons, frz, vtup, Nat.reduceEqDiff, if_true, if_false, reduceIte]
   rw [soonB, endB, if_neg (by intro h; exact he h.1)]
 | succ k ih =>
  intro l M hlk
  have hm1 := hy.m1
  have hp : l.length ≤ 1000000 := by omega
  have p1 : ((l.length : Int) = (y.carts.length : Int)) = False := eq_false (by omega)
  have hn3 := hy.n1
  have hE : soonB y best last mn (k + 1) l = (List.range y.ramps.length).any fun r => (List.range (mn + 1)).any fun f => soonB y best last mn k (l ++ [⟨(r : Int), (f : Int)⟩]) := rfl
  rw [hE]
  refine VC_own' T_ok (f := 35) (fn := Try.f35) (by kernel_rfl) rfl Try.ntmps35 (by rfl) (by rfl) ?_
  ((repeat refine Ws ?_);refine W_regionE T_ok ?_; intro Kn hKn)
  ((simp (maxSteps := 1000000) only [VL,VM,↓VG,reduceIte,reduceCtorEq,zA,zB,zC,zD,zE,zF,zG,zH,zI,zJ]); rw [hKn]; clear hKn; clear Kn; simp only [thenQ.eq_1, thenQ.eq_2, blockQ.eq_1, blockQ.eq_2, reduceIte, reduceCtorEq, Nat.reduceEqDiff])
  ((repeat refine Ws ?_);refine W_regionE T_ok ?_; intro Kn hKn)
  ((simp (maxSteps := 1000000) only [VL,VM,↓VG,reduceIte,reduceCtorEq,zA,zB,zC,zD,zE,zF,zG,zH,zI,zJ, p1]); rw [hKn]; clear hKn; clear Kn; simp only [thenQ.eq_1, thenQ.eq_2, blockQ.eq_1, blockQ.eq_2, reduceIte, reduceCtorEq, Nat.reduceEqDiff])
  ((repeat refine Ws ?_);refine Wf (by first|rfl|simp only [EV,zF,reduceIte]) ?_)
  (((repeat refine Ws ?_);refine W_skip ?_); simp only [thenQ.eq_1, thenQ.eq_2, blockQ.eq_1, blockQ.eq_2, reduceIte, reduceCtorEq, Nat.reduceEqDiff])
  ((repeat refine Ws ?_);refine W_regionE T_ok ?_; intro Kn hKn)
  ((simp (maxSteps := 1000000) only [VL,VM,↓VG,reduceIte,reduceCtorEq,zA,zB,zC,zD,zE,zF,zG,zH,zI,zJ]); rw [hKn]; clear hKn; clear Kn; simp only [thenQ.eq_1, thenQ.eq_2, blockQ.eq_1, blockQ.eq_2, reduceIte, reduceCtorEq, Nat.reduceEqDiff])
  ((repeat refine Ws ?_);refine W_block ?_; (repeat refine Ws ?_)); refine W_loopS (fun s : Nat × List VObj => [(1, stsV l), (2, stsV best), (3, vi last), (4, vi mn), (5, .ptr M.H.length 0), (12, vi s.1)]) (fun s => ⟨M.H ++ .obj (yardC y) :: s.2, M.lg⟩) (fun s => y.ramps.length - s.1) (fun s => s.1 ≤ y.ramps.length ∧ ((List.range s.1).any fun r => (List.range (mn + 1)).any fun f => soonB y best last mn k (l ++ [⟨(r : Int), (f : Int)⟩])) = false) (0, []) ⟨Nat.zero_le _, rfl⟩ ⟨rfl, rfl, rfl, rfl, rfl, rfl, trivial⟩ rfl ?_
  rintro ⟨r, junk⟩ ⟨hr, hv⟩
  simp only at hr hv
  have k1 : -9223372036854775808 ≤ (r : Int) + 1 ∧ (r : Int) + 1 < 9223372036854775808 := by omega
  ((repeat refine Ws ?_);refine W_regionE T_ok ?_; intro Kn hKn)
  rcases Nat.lt_or_ge r y.ramps.length with hlt | hge
  rotate_left
  ·have k2 : ((r : Int) < (y.ramps.length : Int)) = False := eq_false (by omega)
   obtain rfl : r = y.ramps.length := by omega
   ((simp (maxSteps := 1000000) only [VL,VM,↓VG,reduceIte,reduceCtorEq,zA,zB,zC,zD,zE,zF,zG,zH,zI,zJ, k2]); rw [hKn]; clear hKn; clear Kn; simp only [thenQ.eq_1, thenQ.eq_2, blockQ.eq_1, blockQ.eq_2, reduceIte, reduceCtorEq, Nat.reduceEqDiff])
   ((repeat refine Ws ?_);refine Wf (by first|rfl|simp only [EV,zF,reduceIte]) ?_)
   (((repeat refine Ws ?_);refine W_exit ?_); simp only [thenQ.eq_1, thenQ.eq_2, blockQ.eq_1, blockQ.eq_2, reduceIte, reduceCtorEq, Nat.reduceEqDiff])
   ((repeat refine Ws ?_);refine W_regionE T_ok ?_; intro Kn hKn)
   ((simp (maxSteps := 1000000) only [VL,VM,↓VG,reduceIte,reduceCtorEq,zA,zB,zC,zD,zE,zF,zG,zH,zI,zJ]); rw [hKn]; clear hKn; clear Kn; simp only [thenQ.eq_1, thenQ.eq_2, blockQ.eq_1, blockQ.eq_2, reduceIte, reduceCtorEq, Nat.reduceEqDiff])
   (repeat refine Ws ?_)
   refine W_ret ?_
   try simp only [thenQ, blockQ]
   refine own_ret1 rfl ?_ (by rfl)
   simp only [get_cons, frz, vtup, Nat.reduceEqDiff, if_true, if_false, reduceIte]
   rw [hv]
  have k2 : ((r : Int) < (y.ramps.length : Int)) = True := eq_true (by omega)
  ((simp (maxSteps := 1000000) only [VL,VM,↓VG,reduceIte,reduceCtorEq,zA,zB,zC,zD,zE,zF,zG,zH,zI,zJ, k2]); rw [hKn]; clear hKn; clear Kn; simp only [thenQ.eq_1, thenQ.eq_2, blockQ.eq_1, blockQ.eq_2, reduceIte, reduceCtorEq, Nat.reduceEqDiff])
  ((repeat refine Ws ?_);refine Wt (by first|rfl|simp only [EV,zF,reduceIte]) ?_)
  (((repeat refine Ws ?_);refine W_skip ?_); simp only [thenQ.eq_1, thenQ.eq_2, blockQ.eq_1, blockQ.eq_2, reduceIte, reduceCtorEq, Nat.reduceEqDiff])
  ((repeat refine Ws ?_);refine W_block ?_)
  ((repeat refine Ws ?_);refine W_regionE T_ok ?_; intro Kn hKn)
  ((simp (maxSteps := 1000000) only [VL,VM,↓VG,reduceIte,reduceCtorEq,zA,zB,zC,zD,zE,zF,zG,zH,zI,zJ]); rw [hKn]; clear hKn; clear Kn; simp only [thenQ.eq_1, thenQ.eq_2, blockQ.eq_1, blockQ.eq_2, reduceIte, reduceCtorEq, Nat.reduceEqDiff])
  ((repeat refine Ws ?_);refine W_block ?_; (repeat refine Ws ?_)); refine W_loopS (fun s : Nat × List VObj => [(1, stsV l), (2, stsV best), (3, vi last), (4, vi mn), (5, .ptr M.H.length 0), (12, vi r), (13, vi s.1)]) (fun s => ⟨M.H ++ .obj (yardC y) :: s.2, M.lg⟩) (fun s => mn + 1 - s.1) (fun s => s.1 ≤ mn + 1 ∧ ((List.range s.1).any fun f => soonB y best last mn k (l ++ [⟨(r : Int), (f : Int)⟩])) = false) (0, junk) ⟨Nat.zero_le _, rfl⟩ ⟨rfl, rfl, rfl, rfl, rfl, rfl, rfl, trivial⟩ rfl ?_
  rintro ⟨f, junk⟩ ⟨hf, hw⟩
  simp only at hf hw
  have w1 : -9223372036854775808 ≤ (f : Int) + 1 ∧ (f : Int) + 1 < 9223372036854775808 := by omega
  ((repeat refine Ws ?_);refine W_regionE T_ok ?_; intro Kn hKn)
  rcases Nat.lt_or_ge f (mn + 1) with hlf | hgf
  rotate_left
  ·have k3 : ((f : Int) ≤ (mn : Int)) = False := eq_false (by omega)
   obtain rfl : f = mn + 1 := by omega
   ((simp (maxSteps := 1000000) only [VL,VM,↓VG,reduceIte,reduceCtorEq,zA,zB,zC,zD,zE,zF,zG,zH,zI,zJ, k3]); rw [hKn]; clear hKn; clear Kn; simp only [thenQ.eq_1, thenQ.eq_2, blockQ.eq_1, blockQ.eq_2, reduceIte, reduceCtorEq, Nat.reduceEqDiff])
   ((repeat refine Ws ?_);refine Wf (by first|rfl|simp only [EV,zF,reduceIte]) ?_)
   (((repeat refine Ws ?_);refine W_exit ?_); simp only [thenQ.eq_1, thenQ.eq_2, blockQ.eq_1, blockQ.eq_2, reduceIte, reduceCtorEq, Nat.reduceEqDiff])
   ((repeat refine Ws ?_);refine W_regionE T_ok ?_; intro Kn hKn)
   ((simp (maxSteps := 1000000) only [VL,VM,↓VG,reduceIte,reduceCtorEq,zA,zB,zC,zD,zE,zF,zG,zH,zI,zJ, k1]); rw [hKn]; clear hKn; clear Kn; simp only [thenQ.eq_1, thenQ.eq_2, blockQ.eq_1, blockQ.eq_2, reduceIte, reduceCtorEq, Nat.reduceEqDiff])
   exact LoopK.mk (r + 1, junk) (by simp only; omega) ⟨by simp only; omega, by simp only; rw [any_snoc, hv, hw]; rfl⟩ ⟨rfl, rfl, rfl, rfl, rfl, rfl, trivial⟩ rfl
  have k3 : ((f : Int) ≤ (mn : Int)) = True := eq_true (by omega)
  ((simp (maxSteps := 1000000) only [VL,VM,↓VG,reduceIte,reduceCtorEq,zA,zB,zC,zD,zE,zF,zG,zH,zI,zJ, k3]); rw [hKn]; clear hKn; clear Kn; simp only [thenQ.eq_1, thenQ.eq_2, blockQ.eq_1, blockQ.eq_2, reduceIte, reduceCtorEq, Nat.reduceEqDiff])
  ((repeat refine Ws ?_);refine Wt (by first|rfl|simp only [EV,zF,reduceIte]) ?_)
  (((repeat refine Ws ?_);refine W_skip ?_); simp only [thenQ.eq_1, thenQ.eq_2, blockQ.eq_1, blockQ.eq_2, reduceIte, reduceCtorEq, Nat.reduceEqDiff])
  ((repeat refine Ws ?_);refine W_block ?_)
  obtain ⟨A, hA⟩ : ∃ A, A = M.H ++ VObj.obj (yardC y) :: junk := ⟨_, rfl⟩
  have hA1 : A[M.H.length]? = some (VObj.obj (yardC y)) := by rw [hA, hget0]; rfl
  have hA2 : ∀ L, (A ++ L)[M.H.length]? = some (VObj.obj (yardC y)) := fun L => by rw [List.getElem?_append_left (by rw [hA]; simp)]; exact hA1
  rw [← hA]
  have q1 : ((l.length + 1) * 16 ≤ 140737488355328) = True := eq_true (by omega)
  ·skip
   (repeat refine Ws ?_)
   refine W_drawE T_ok [] (by kernel_rfl) (by kernel_rfl) ?_
   intro Kn hKn
   generalize hi : mkPlan _ = infs
   cbv at hi
   subst hi
   simp (maxSteps := 1000000) only [VL,VM,↓VG,reduceIte,reduceCtorEq,zA,zB,zC,zD,zE,zF,zG,zH,zI,zJ, hA1, hA2]
   apply call_d (f := 41) (fn := Try.f41) (by kernel_rfl) (by rfl)
   ·exact copySlots_k l _ hp
   simp (maxSteps := 1000000) only [VL,VM,↓VG,reduceIte,reduceCtorEq,zA,zB,zC,zD,zE,zF,zG,zH,zI,zJ, hA1, hA2, q1]
   have ihc := ih (l ++ [⟨(r : Int), (f : Int)⟩]) ⟨A ++ [.clm (l.length + 1) 2], M.lg⟩ (by simp; omega)
   rw [show (l ++ [(⟨(r : Int), (f : Int)⟩ : St)]).map stP = l.map stP ++ [[.int .i64 (r : Int), .int .i64 (f : Int)]] by simp] at ihc
   apply call_d (f := 35) (fn := Try.f35) (by kernel_rfl) (by rfl)
   ·exact ihc
   ((simp (maxSteps := 1000000) only [VL,VM,↓VG,reduceIte,reduceCtorEq,zA,zB,zC,zD,zE,zF,zG,zH,zI,zJ, hA1, hA2]); rw [hKn]; clear hKn; clear Kn; simp only [thenQ.eq_1, thenQ.eq_2, blockQ.eq_1, blockQ.eq_2, reduceIte, reduceCtorEq, Nat.reduceEqDiff])
   cases hs : soonB y best last mn k (l ++ [⟨(r : Int), (f : Int)⟩]) with
   | true =>
    ((repeat refine Ws ?_);refine Wt (by first|rfl|simp only [EV,zF,reduceIte]) ?_)
    ((repeat refine Ws ?_);refine W_regionE T_ok ?_; intro Kn hKn)
    ((simp (maxSteps := 1000000) only [VL,VM,↓VG,reduceIte,reduceCtorEq,zA,zB,zC,zD,zE,zF,zG,zH,zI,zJ]); rw [hKn]; clear hKn; clear Kn; simp only [thenQ.eq_1, thenQ.eq_2, blockQ.eq_1, blockQ.eq_2, reduceIte, reduceCtorEq, Nat.reduceEqDiff])
    rw [hA, List.append_assoc]
    (repeat refine Ws ?_)
    refine W_ret ?_
    try simp only [thenQ, blockQ]
    refine own_ret1 rfl ?_ (by rfl)
    simp only [get_cons, frz, vtup, Nat.reduceEqDiff, if_true, if_false, reduceIte]
    rw [any_hitN hlt (any_hitN hlf hs)]
   | false =>
    ((repeat refine Ws ?_);refine Wf (by first|rfl|simp only [EV,zF,reduceIte]) ?_)
    (((repeat refine Ws ?_);refine W_skip ?_); simp only [thenQ.eq_1, thenQ.eq_2, blockQ.eq_1, blockQ.eq_2, reduceIte, reduceCtorEq, Nat.reduceEqDiff])
    ((repeat refine Ws ?_);refine W_regionE T_ok ?_; intro Kn hKn)
    ((simp (maxSteps := 1000000) only [VL,VM,↓VG,reduceIte,reduceCtorEq,zA,zB,zC,zD,zE,zF,zG,zH,zI,zJ, w1]); rw [hKn]; clear hKn; clear Kn; simp only [thenQ.eq_1, thenQ.eq_2, blockQ.eq_1, blockQ.eq_2, reduceIte, reduceCtorEq, Nat.reduceEqDiff])
    refine LoopK.mk (f + 1, junk ++ [.clm (l.length + 1) 2]) (by simp only; omega) ⟨by simp only; omega, by simp only; rw [any_snoc, hw, hs]; rfl⟩ ⟨rfl, rfl, rfl, rfl, rfl, rfl, rfl, trivial⟩ (by rw [hA]; simp)
end Go.Proofs.Ythcicaelnchfdaa.Vm

/- The law that no plan is away sooner, on values. (Vm) -/
namespace Go.Proofs.Ythcicaelnchfdaa.Vm
open Go Go.Proofs
attribute [local irreducible] castF castU fromF fromU oneF oneU yardS
set_option maxHeartbeats 8000000 in
set_option maxRecDepth 100000 in
theorem soonest_law_v (xs : List Int) (M : Mem) (hl : xs.length ≤ maxLen) : VC Try.prog 9 [intsV xs] M (fun r M' => M' = M ∧ r = vb true) := by
 refine VC_own' T_ok (f := 9) (fn := Try.f9) (by kernel_rfl) rfl Try.ntmps9 (by rfl) (by rfl) ?_
 ((repeat refine Ws ?_);refine W_regionE T_ok ?_; intro Kn hKn)
 ((simp (maxSteps := 1000000) only [VL,VM,↓VG,reduceIte,reduceCtorEq,zA,zB,zC,zD,zE,zF,zG,zH,zI,zJ]); rw [hKn]; clear hKn; clear Kn; simp only [thenQ.eq_1, thenQ.eq_2, blockQ.eq_1, blockQ.eq_2, reduceIte, reduceCtorEq, Nat.reduceEqDiff])
 ((repeat refine Ws ?_);refine Wr ?_)
 simp (maxSteps := 1000000) only [VL,VM,↓VG,reduceIte,reduceCtorEq,zA,zB,zC,zD,zE,zF,zG,zH,zI,zJ]
 apply call_eq (f := 17) (fn := Try.f17) (by kernel_rfl) (by rfl)
 ·exact dieOf_v xs _ hl
 obtain ⟨H0, hH0⟩ : ∃ H0, H0 = M.H ++ [VObj.dead] := ⟨_, rfl⟩
 obtain ⟨d, hdd⟩ : ∃ d, d = M.H.length := ⟨_, rfl⟩
 have hd : d < H0.length := by rw [hH0, hdd]; simp
 have hlen0 : H0.length = M.H.length + 1 := by rw [hH0]; simp
 have tail : ∀ u L, DH H0 d u L = M.H ++ (.obj [uv u] :: L) := fun u L => by
  rw [hH0, hdd]
  exact DH_tail M u L
 rw [← hH0, ← hdd]
 generalize dieU xs = u0
 simp (maxSteps := 1000000) only [VL,VM,↓VG,reduceIte,reduceCtorEq,zA,zB,zC,zD,zE,zF,zG,zH,zI,zJ]
 have o1 := fromF_range (u := u0) (lo := 4) (hi := 8) (by omega)
 ((repeat refine Ws ?_);refine Wr ?_)
 simp (maxSteps := 1000000) only [VL,VM,↓VG,reduceIte,reduceCtorEq,zA,zB,zC,zD,zE,zF,zG,zH,zI,zJ]
 apply call_eq (f := 32) (fn := Try.f32) (by kernel_rfl) (by rfl)
 ·exact from_c hd u0 4 8 M.lg (by omega) (by omega) (by omega) (by omega)
 generalize fromF u0 4 8 = m1 at o1 ⊢
 generalize fromU u0 4 8 = u1
 simp (maxSteps := 1000000) only [VL,VM,↓VG,reduceIte,reduceCtorEq,zA,zB,zC,zD,zE,zF,zG,zH,zI,zJ]
 ((repeat refine Ws ?_);refine Wr ?_)
 simp (maxSteps := 1000000) only [VL,VM,↓VG,reduceIte,reduceCtorEq,zA,zB,zC,zD,zE,zF,zG,zH,zI,zJ]
 apply call_eq (f := 18) (fn := Try.f18) (by kernel_rfl) (by rfl)
 ·exact yardOf_d hd u1 M.lg 2 3 m1 (by omega) (by omega) (by omega)
 have md := yardS_made (u := u1) (A := 2) (B := 3) (m := m1) (by omega) (by omega) (by omega)
 generalize yardS u1 2 3 m1 = y2 at md ⊢
 obtain ⟨y, u2⟩ := y2
 simp only at md ⊢
 have hy := md.V (by omega) (by omega) (by omega)
 have lens := md.len (by omega) (by omega)
 obtain ⟨mn, rfl⟩ : ∃ k : Nat, m1 = (k : Int) := ⟨m1.toNat, by omega⟩
 have hmn : mn ≤ 1000 := by omega
 simp (maxSteps := 1000000) only [VL,VM,↓VG,reduceIte,reduceCtorEq,zA,zB,zC,zD,zE,zF,zG,zH,zI,zJ, DH_app hd, DH_len, DH_len0, DH_get hd, DH_get0 hd, DH_set hd, DH_set0 hd, DH_setd, DH_die hd]
 rw [tail, hlen0]
 ((repeat refine Ws ?_);refine W_regionE T_ok ?_; intro Kn hKn)
 simp (maxSteps := 1000000) only [VL,VM,↓VG,reduceIte,reduceCtorEq,zA,zB,zC,zD,zE,zF,zG,zH,zI,zJ]
 apply call_eq (f := 21) (fn := Try.f21) (by kernel_rfl) (by rfl)
 ·exact pserve_v y _ lens.1 lens.2.1 lens.2.2
 rw [serveV]
 ((simp (maxSteps := 1000000) only [VL,VM,↓VG,reduceIte,reduceCtorEq,zA,zB,zC,zD,zE,zF,zG,zH,zI,zJ]); rw [hKn]; clear hKn; clear Kn; simp only [thenQ.eq_1, thenQ.eq_2, blockQ.eq_1, blockQ.eq_2, reduceIte, reduceCtorEq, Nat.reduceEqDiff])
 cases hs : servedR y with
 | none =>
  rw [serve_none hy hs]
  have hno : soonB y [] 1440 mn y.carts.length [] = false := soon_no (end_none hy hs [] 1440) _ _
  have hb : ∀ l, Fe y l → lastV y l = 1440 → l.length ≤ ([] : List St).length := fun l hl _ => by
   obtain ⟨x, hx, _⟩ := (servedR_best hy).2 l hl
   rw [hs] at hx; cases hx
  ((repeat refine Ws ?_);refine W_regionE T_ok ?_; intro Kn hKn)
  ((simp (maxSteps := 1000000) only [VL,VM,↓VG,reduceIte,reduceCtorEq,zA,zB,zC,zD,zE,zF,zG,zH,zI,zJ]); rw [hKn]; clear hKn; clear Kn; simp only [thenQ.eq_1, thenQ.eq_2, blockQ.eq_1, blockQ.eq_2, reduceIte, reduceCtorEq, Nat.reduceEqDiff])
  ((repeat refine Ws ?_);refine Wt (by first|rfl|simp only [EV,zF,reduceIte]) ?_)
  ((repeat refine Ws ?_);refine W_regionE T_ok ?_; intro Kn hKn)
  ((simp (maxSteps := 1000000) only [VL,VM,↓VG,reduceIte,reduceCtorEq,zA,zB,zC,zD,zE,zF,zG,zH,zI,zJ]); rw [hKn]; clear hKn; clear Kn; simp only [thenQ.eq_1, thenQ.eq_2, blockQ.eq_1, blockQ.eq_2, reduceIte, reduceCtorEq, Nat.reduceEqDiff])
  ((repeat refine Ws ?_);refine W_regionE T_ok ?_; intro Kn hKn)
  simp (maxSteps := 1000000) only [VL,VM,↓VG,reduceIte,reduceCtorEq,zA,zB,zC,zD,zE,zF,zG,zH,zI,zJ]
  apply call_eq (f := 35) (fn := Try.f35) (by kernel_rfl) (by rfl)
  ·exact VC_nil0 (us := [yardV y]) (k := 2) (vs := [.p (.sl 0 []), vi 1440, vi mn]) (VC_nil0 (us := [yardV y, stsV []]) (k := 2) (vs := [vi 1440, vi mn]) (sooner_v hy lens [] 1440 mn hmn hb y.carts.length [] _ (by simp)))
  rw [hno]
  simp (maxSteps := 1000000) only [VL,VM,↓VG,reduceIte,reduceCtorEq,zA,zB,zC,zD,zE,zF,zG,zH,zI,zJ]
  apply call_eq (f := 16) (fn := Try.f16) (by kernel_rfl) (by rfl)
  ·exact awake_v _
  ((simp (maxSteps := 1000000) only [VL,VM,↓VG,reduceIte,reduceCtorEq,zA,zB,zC,zD,zE,zF,zG,zH,zI,zJ]); rw [hKn]; clear hKn; clear Kn; simp only [thenQ.eq_1, thenQ.eq_2, blockQ.eq_1, blockQ.eq_2, reduceIte, reduceCtorEq, Nat.reduceEqDiff])
  (repeat refine Ws ?_)
  refine W_ret ?_
  try simp only [thenQ, blockQ]
  refine own_ret1 rfl ?_ (by rfl)
  simp only [get_cons, frz, vtup, Nat.reduceEqDiff, if_true, if_false, reduceIte]
 | some p =>
  rw [serve_some hy hs]
  have fe := (servedR_best hy).1 p hs
  have hpl := fe.len
  have hno : soonB y p (lastV y p) mn y.carts.length [] = false := soon_no (end_some hy hs) _ _
  have hb : ∀ l, Fe y l → lastV y l = lastV y p → l.length ≤ p.length := fun l hl _ => by have := hl.len; omega
  have p1 : ((p.length : Int) = (y.carts.length : Int)) = True := eq_true (by omega)
  ((repeat refine Ws ?_);refine W_regionE T_ok ?_; intro Kn hKn)
  ((simp (maxSteps := 1000000) only [VL,VM,↓VG,reduceIte,reduceCtorEq,zA,zB,zC,zD,zE,zF,zG,zH,zI,zJ]); rw [hKn]; clear hKn; clear Kn; simp only [thenQ.eq_1, thenQ.eq_2, blockQ.eq_1, blockQ.eq_2, reduceIte, reduceCtorEq, Nat.reduceEqDiff])
  ((repeat refine Ws ?_);refine Wf (by first|rfl|simp only [EV,zF,reduceIte]) ?_)
  ((repeat refine Ws ?_);refine W_regionE T_ok ?_; intro Kn hKn)
  ((simp (maxSteps := 1000000) only [VL,VM,↓VG,reduceIte,reduceCtorEq,zA,zB,zC,zD,zE,zF,zG,zH,zI,zJ, p1]); rw [hKn]; clear hKn; clear Kn; simp only [thenQ.eq_1, thenQ.eq_2, blockQ.eq_1, blockQ.eq_2, reduceIte, reduceCtorEq, Nat.reduceEqDiff])
  ((repeat refine Ws ?_);refine Wf (by first|rfl|simp only [EV,zF,reduceIte]) ?_)
  (((repeat refine Ws ?_);refine W_skip ?_); simp only [thenQ.eq_1, thenQ.eq_2, blockQ.eq_1, blockQ.eq_2, reduceIte, reduceCtorEq, Nat.reduceEqDiff])
  ((repeat refine Ws ?_);refine W_regionE T_ok ?_; intro Kn hKn)
  simp (maxSteps := 1000000) only [VL,VM,↓VG,reduceIte,reduceCtorEq,zA,zB,zC,zD,zE,zF,zG,zH,zI,zJ]
  apply call_eq (f := 35) (fn := Try.f35) (by kernel_rfl) (by rfl)
  ·exact VC_nil0 (us := [yardV y]) (k := 2) (vs := [stsV p, vi (lastV y p), vi mn]) (sooner_v hy lens p (lastV y p) mn hmn hb y.carts.length [] _ (by simp))
  rw [hno]
  simp (maxSteps := 1000000) only [VL,VM,↓VG,reduceIte,reduceCtorEq,zA,zB,zC,zD,zE,zF,zG,zH,zI,zJ]
  apply call_eq (f := 16) (fn := Try.f16) (by kernel_rfl) (by rfl)
  ·exact awake_v _
  ((simp (maxSteps := 1000000) only [VL,VM,↓VG,reduceIte,reduceCtorEq,zA,zB,zC,zD,zE,zF,zG,zH,zI,zJ]); rw [hKn]; clear hKn; clear Kn; simp only [thenQ.eq_1, thenQ.eq_2, blockQ.eq_1, blockQ.eq_2, reduceIte, reduceCtorEq, Nat.reduceEqDiff])
  (repeat refine Ws ?_)
  refine W_ret ?_
  try simp only [thenQ, blockQ]
  refine own_ret1 rfl ?_ (by rfl)
  simp only [get_cons, frz, vtup, Nat.reduceEqDiff, if_true, if_false, reduceIte]
end Go.Proofs.Ythcicaelnchfdaa.Vm
