/- A part of the proofs about the chapter of the ramps; it states no condition of its own. -/
import Derived.Test.YtmiiipdgbkipjaaGreatDoorB15
import Derived.Test.YtmiiipdgbkipjaaGreatDoorB17
set_option linter.unusedVariables false
set_option linter.unusedSimpArgs false
open Int renaming reduceLE → zA, reduceLT → zB, reduceToNat → zC, reduceNeg → zD
open Nat renaming reduceLT → zE, reduceEqDiff → zF, reduceAdd → zG, reduceSub → zH, reduceMul → zI, reduceLeDiff → zJ
/- The program's check of yards and plans, on values. (Vm) -/
namespace Go.Proofs.YtmiiipdgbkipjaaGreatDoor.Vm
open Go Go.Proofs
theorem index_v (xs : List Int) (x : Int) (M : Mem) (hl : xs.length ≤ 1000000) : VC Tryz.prog 84 [intsV xs, vi x] M (fun r M' => M' = M ∧ ∃ k : Int, r = vi k ∧ decide (0 ≤ k) = xs.any fun y => decide (x = y)) := by
 refine VC_own' T_ok (f := 84) (fn := Tryz.f84) (by kernel_rfl) rfl Tryz.ntmps84 (by rfl) (by rfl) ?_
 ((repeat refine Ws ?_);refine Wr ?_)
 simp (maxSteps := 1000000) only [VL,VM,↓VG,reduceIte,reduceCtorEq,zA,zB,zC,zD,zE,zF,zG,zH,zI,zJ]
 ((repeat refine Ws ?_);refine Wr ?_)
 simp (maxSteps := 1000000) only [VL,VM,↓VG,reduceIte,reduceCtorEq,zA,zB,zC,zD,zE,zF,zG,zH,zI,zJ]
 ((repeat refine Ws ?_);refine W_block ?_; (repeat refine Ws ?_)); refine W_loopS (fun i : Nat => [(0, intsV xs), (1, vi x), (7, vi xs.length), (8, vi i)]) (fun _ => M) (fun i => xs.length - i) (fun i => i ≤ xs.length ∧ (xs.take i).any (fun y => decide (x = y)) = false) 0 ⟨by omega, by simp⟩ ⟨rfl, rfl, rfl, rfl, trivial⟩ rfl ?_
 rintro i ⟨hi, hno⟩
 have k1 : -9223372036854775808 ≤ (i : Int) + 1 ∧ (i : Int) + 1 < 9223372036854775808 := by omega
 ((repeat refine Ws ?_);refine Wr ?_)
 rcases Nat.lt_or_ge i xs.length with hlt | hge
 ·have k2 : ((i : Int) < (xs.length : Int)) = True := eq_true (by omega)
  have hx : xs[i]? = some xs[i] := List.getElem?_eq_getElem hlt
  have hx' := map_at (f := intP) hx
  generalize hc : xs[i] = z at hx hx'
  simp (maxSteps := 1000000) only [VL,VM,↓VG,reduceIte,reduceCtorEq,zA,zB,zC,zD,zE,zF,zG,zH,zI,zJ, k1, k2, hx']
  ((repeat refine Ws ?_);refine Wt (by first|rfl|simp only [EV,zF,reduceIte]) ?_)
  ((repeat refine Ws ?_);refine W_skip ?_)
  simp (maxSteps := 1000000) only [VL,VM,↓VG,reduceIte,reduceCtorEq,zA,zB,zC,zD,zE,zF,zG,zH,zI,zJ]
  ((repeat refine Ws ?_);refine W_block ?_)
  ((repeat refine Ws ?_);refine Wr ?_)
  simp (maxSteps := 1000000) only [VL,VM,↓VG,reduceIte,reduceCtorEq,zA,zB,zC,zD,zE,zF,zG,zH,zI,zJ]
  ((repeat refine Ws ?_);refine Wr ?_)
  by_cases hp : x = z
  ·simp (maxSteps := 1000000) only [VL,VM,↓VG,reduceIte,reduceCtorEq,zA,zB,zC,zD,zE,zF,zG,zH,zI,zJ, hx', hp]
   ((repeat refine Ws ?_);refine Wt (by first|rfl|simp only [EV,zF,reduceIte]) ?_)
   ((repeat refine Ws ?_);refine Wr ?_)
   simp (maxSteps := 1000000) only [VL,VM,↓VG,reduceIte,reduceCtorEq,zA,zB,zC,zD,zE,zF,zG,zH,zI,zJ]
   (repeat refine Ws ?_)
   refine W_ret ?_
   try simp only [thenQ, blockQ]
   refine own_ret0 rfl rfl rfl ⟨rfl, (i : Int), rfl, ?_⟩
   rw [any_hit _ xs i _ hx (decide_eq_true rfl)]; simp
  ·simp (maxSteps := 1000000) only [VL,VM,↓VG,reduceIte,reduceCtorEq,zA,zB,zC,zD,zE,zF,zG,zH,zI,zJ, hx', hp]
   ((repeat refine Ws ?_);refine Wf (by first|rfl|simp only [EV,zF,reduceIte]) ?_)
   ((repeat refine Ws ?_);refine W_skip ?_)
   simp (maxSteps := 1000000) only [VL,VM,↓VG,reduceIte,reduceCtorEq,zA,zB,zC,zD,zE,zF,zG,zH,zI,zJ]
   ((repeat refine Ws ?_);refine Wr ?_)
   simp (maxSteps := 1000000) only [VL,VM,↓VG,reduceIte,reduceCtorEq,zA,zB,zC,zD,zE,zF,zG,zH,zI,zJ, k1]
   refine LoopK.mk (i + 1) (by omega) ⟨by omega, ?_⟩ ⟨rfl, rfl, rfl, rfl, trivial⟩ rfl
   rw [any_take _ xs i _ hx, hno]
   simp [hp]
 ·have k2 : ((i : Int) < (xs.length : Int)) = False := eq_false (by omega)
  simp (maxSteps := 1000000) only [VL,VM,↓VG,reduceIte,reduceCtorEq,zA,zB,zC,zD,zE,zF,zG,zH,zI,zJ, k1, k2]
  ((repeat refine Ws ?_);refine Wf (by first|rfl|simp only [EV,zF,reduceIte]) ?_)
  ((repeat refine Ws ?_);refine W_exit ?_)
  simp (maxSteps := 1000000) only [VL,VM,↓VG,reduceIte,reduceCtorEq,zA,zB,zC,zD,zE,zF,zG,zH,zI,zJ]
  ((repeat refine Ws ?_);refine Wr ?_)
  simp (maxSteps := 1000000) only [VL,VM,↓VG,reduceIte,reduceCtorEq,zA,zB,zC,zD,zE,zF,zG,zH,zI,zJ]
  (repeat refine Ws ?_)
  refine W_ret ?_
  try simp only [thenQ, blockQ]
  refine own_ret0 rfl rfl rfl ⟨rfl, -1, rfl, ?_⟩
  rw [List.take_of_length_le hge] at hno
  rw [hno]; rfl
theorem contains_v (xs : List Int) (x : Int) (M : Mem) (hl : xs.length ≤ 1000000) : VC Tryz.prog 67 [intsV xs, vi x] M (fun r M' => M' = M ∧ r = vb (decide (x ∈ xs))) := by
 refine VC_own' T_ok (f := 67) (fn := Tryz.f67) (by kernel_rfl) rfl Tryz.ntmps67 (by rfl) (by rfl) ?_
 ((repeat refine Ws ?_);refine Wr ?_)
 simp (maxSteps := 1000000) only [VL,VM,↓VG,reduceIte,reduceCtorEq,zA,zB,zC,zD,zE,zF,zG,zH,zI,zJ]
 ((repeat refine Ws ?_);refine Wr ?_)
 simp (maxSteps := 1000000) only [VL,VM,↓VG,reduceIte,reduceCtorEq,zA,zB,zC,zD,zE,zF,zG,zH,zI,zJ]
 refine fn_call1 (f := 84) (fn := Tryz.f84) (by kernel_rfl) (by rfl) ?_
 refine (index_v xs x M hl).mono ?_
 rintro _ _ ⟨rfl, k, rfl, hk⟩
 simp (maxSteps := 1000000) only [VL,VM,↓VG,reduceIte,reduceCtorEq,zA,zB,zC,zD,zE,zF,zG,zH,zI,zJ]
 (repeat refine Ws ?_)
 refine W_ret ?_
 try simp only [thenQ, blockQ]
 refine own_ret10 rfl ?_ (by rfl)
 simp only [get_cons, frz, vtup, Nat.reduceEqDiff, if_true, if_false, reduceIte]
 rw [hk]
 congr 2
 rw [Bool.eq_iff_iff]
 simp
theorem check_v (y : Ya) (M : Mem) (hn : y.ramps.length ≤ 1000000) (hm : y.carts.length ≤ 1000000) (hl : ∀ c ∈ y.carts, c.ramps.length ≤ 1000000) : VC Tryz.prog 28 [yardV y] M (fun x M' => M' = M ∧ x = vi (yErr y)) := by
 have e1 : yErr y = yErr y := rfl
 conv at e1 => rhs; unfold yErr
 refine VC_own' T_ok (f := 28) (fn := Tryz.f28) (by kernel_rfl) rfl Tryz.ntmps28 (by rfl) (by rfl) ?_
 ((repeat refine Ws ?_);refine Wr ?_)
 simp (maxSteps := 1000000) only [VL,VM,↓VG,reduceIte,reduceCtorEq,zA,zB,zC,zD,zE,zF,zG,zH,zI,zJ]
 ((repeat refine Ws ?_);refine W_block ?_)
 ((repeat refine Ws ?_);refine Wr ?_)
 by_cases h1 : y.ramps.length = 0
 ·have k : ((y.ramps.length : Int) = 0) = True := eq_true (by omega)
  rw [if_pos h1] at e1
  simp (maxSteps := 1000000) only [VL,VM,↓VG,reduceIte,reduceCtorEq,zA,zB,zC,zD,zE,zF,zG,zH,zI,zJ, k]
  ((repeat refine Ws ?_);refine Wt (by first|rfl|simp only [EV,zF,reduceIte]) ?_)
  ((repeat refine Ws ?_);refine Wr ?_)
  simp (maxSteps := 1000000) only [VL,VM,↓VG,reduceIte,reduceCtorEq,zA,zB,zC,zD,zE,zF,zG,zH,zI,zJ]
  (repeat refine Ws ?_)
  refine W_ret ?_
  try simp only [thenQ, blockQ]
  refine own_ret1 rfl ?_ (by rfl)
  simp only [get_cons, frz, vtup, Nat.reduceEqDiff, if_true, if_false, reduceIte]
  rw [e1]
 have k : ((y.ramps.length : Int) = 0) = False := eq_false (by omega)
 rw [if_neg h1] at e1
 simp (maxSteps := 1000000) only [VL,VM,↓VG,reduceIte,reduceCtorEq,zA,zB,zC,zD,zE,zF,zG,zH,zI,zJ, k]
 ((repeat refine Ws ?_);refine Wf (by first|rfl|simp only [EV,zF,reduceIte]) ?_)
 ((repeat refine Ws ?_);refine Wr ?_)
 by_cases h2 : 3 < y.ramps.length
 ·have k : (3 < (y.ramps.length : Int)) = True := eq_true (by omega)
  rw [if_pos h2] at e1
  simp (maxSteps := 1000000) only [VL,VM,↓VG,reduceIte,reduceCtorEq,zA,zB,zC,zD,zE,zF,zG,zH,zI,zJ, k]
  ((repeat refine Ws ?_);refine Wt (by first|rfl|simp only [EV,zF,reduceIte]) ?_)
  ((repeat refine Ws ?_);refine Wr ?_)
  simp (maxSteps := 1000000) only [VL,VM,↓VG,reduceIte,reduceCtorEq,zA,zB,zC,zD,zE,zF,zG,zH,zI,zJ]
  (repeat refine Ws ?_)
  refine W_ret ?_
  try simp only [thenQ, blockQ]
  refine own_ret1 rfl ?_ (by rfl)
  simp only [get_cons, frz, vtup, Nat.reduceEqDiff, if_true, if_false, reduceIte]
  rw [e1]
 have k : (3 < (y.ramps.length : Int)) = False := eq_false (by omega)
 rw [if_neg h2] at e1
 simp (maxSteps := 1000000) only [VL,VM,↓VG,reduceIte,reduceCtorEq,zA,zB,zC,zD,zE,zF,zG,zH,zI,zJ, k]
 ((repeat refine Ws ?_);refine Wf (by first|rfl|simp only [EV,zF,reduceIte]) ?_)
 ((repeat refine Ws ?_);refine W_skip ?_)
 simp (maxSteps := 1000000) only [VL,VM,↓VG,reduceIte,reduceCtorEq,zA,zB,zC,zD,zE,zF,zG,zH,zI,zJ]
 ((repeat refine Ws ?_);refine Wr ?_)
 simp (maxSteps := 1000000) only [VL,VM,↓VG,reduceIte,reduceCtorEq,zA,zB,zC,zD,zE,zF,zG,zH,zI,zJ]
 ((repeat refine Ws ?_);refine W_block ?_; (repeat refine Ws ?_)); refine W_loopS (fun (s : Nat × List VObj) => [(1, .ptr M.H.length 0), (20, rasV y.ramps), (21, vi y.ramps.length), (22, vi s.1)]) (fun s => ⟨M.H ++ .obj (yardC y) :: s.2, M.lg⟩) (fun s => y.ramps.length - s.1) (fun s => s.1 ≤ y.ramps.length ∧ rasErr y.ramps = rasErr (y.ramps.drop s.1)) (0, []) ⟨by omega, rfl⟩ ⟨rfl, rfl, rfl, rfl, trivial⟩ rfl ?_
 ·rintro ⟨i, L⟩ ⟨hi, he⟩
  simp only at hi he
  have k1 : -9223372036854775808 ≤ (i : Int) + 1 ∧ (i : Int) + 1 < 9223372036854775808 := by omega
  ((repeat refine Ws ?_);refine Wr ?_)
  rcases Nat.lt_or_ge i y.ramps.length with hlt | hge
  ·have k2 : ((i : Int) < (y.ramps.length : Int)) = True := eq_true (by omega)
   have hx : y.ramps[i]? = some y.ramps[i] := List.getElem?_eq_getElem hlt
   have hx' := map_at (f := raP) hx
   rw [rasErr_at hlt] at he
   generalize hr : y.ramps[i] = r at hx hx' he
   simp (maxSteps := 1000000) only [VL,VM,↓VG,reduceIte,reduceCtorEq,zA,zB,zC,zD,zE,zF,zG,zH,zI,zJ, k2]
   ((repeat refine Ws ?_);refine Wt (by first|rfl|simp only [EV,zF,reduceIte]) ?_)
   ((repeat refine Ws ?_);refine W_skip ?_)
   simp (maxSteps := 1000000) only [VL,VM,↓VG,reduceIte,reduceCtorEq,zA,zB,zC,zD,zE,zF,zG,zH,zI,zJ]
   ((repeat refine Ws ?_);refine W_block ?_)
   ((repeat refine Ws ?_);refine Wr ?_)
   simp (maxSteps := 1000000) only [VL,VM,↓VG,reduceIte,reduceCtorEq,zA,zB,zC,zD,zE,zF,zG,zH,zI,zJ, hx']
   ((repeat refine Ws ?_);refine Wr ?_)
   simp (maxSteps := 1000000) only [VL,VM,↓VG,reduceIte,reduceCtorEq,zA,zB,zC,zD,zE,zF,zG,zH,zI,zJ]
   apply call_eq (f := 55) (fn := Tryz.f55) (by kernel_rfl) (by rfl)
   ·exact checkRamp_v r _
   simp (maxSteps := 1000000) only [VL,VM,↓VG,reduceIte,reduceCtorEq,zA,zB,zC,zD,zE,zF,zG,zH,zI,zJ]
   ((repeat refine Ws ?_);refine Wr ?_)
   by_cases h3 : raErr r = 0
   ·rw [if_pos h3] at he
    simp (maxSteps := 1000000) only [VL,VM,↓VG,reduceIte,reduceCtorEq,zA,zB,zC,zD,zE,zF,zG,zH,zI,zJ, h3]
    ((repeat refine Ws ?_);refine Wf (by first|rfl|simp only [EV,zF,reduceIte]) ?_)
    ((repeat refine Ws ?_);refine W_skip ?_)
    simp (maxSteps := 1000000) only [VL,VM,↓VG,reduceIte,reduceCtorEq,zA,zB,zC,zD,zE,zF,zG,zH,zI,zJ]
    ((repeat refine Ws ?_);refine Wr ?_)
    simp (maxSteps := 1000000) only [VL,VM,↓VG,reduceIte,reduceCtorEq,zA,zB,zC,zD,zE,zF,zG,zH,zI,zJ, k1]
    exact LoopK.mk (i + 1, _) (by simp; omega) ⟨by simp; omega, he⟩ ⟨rfl, rfl, rfl, rfl, trivial⟩ rfl
   ·rw [if_neg h3] at he
    have h4 : ¬ rasErr y.ramps = 0 := by rw [he]; exact h3
    rw [if_neg h4, he] at e1
    simp (maxSteps := 1000000) only [VL,VM,↓VG,reduceIte,reduceCtorEq,zA,zB,zC,zD,zE,zF,zG,zH,zI,zJ, h3]
    ((repeat refine Ws ?_);refine Wt (by first|rfl|simp only [EV,zF,reduceIte]) ?_)
    ((repeat refine Ws ?_);refine Wr ?_)
    simp (maxSteps := 1000000) only [VL,VM,↓VG,reduceIte,reduceCtorEq,zA,zB,zC,zD,zE,zF,zG,zH,zI,zJ]
    (repeat refine Ws ?_)
    refine W_ret ?_
    try simp only [thenQ, blockQ]
    refine own_ret1 rfl ?_ (by rfl)
    simp only [get_cons, frz, vtup, Nat.reduceEqDiff, if_true, if_false, reduceIte]
    rw [e1]
  ·have k2 : ((i : Int) < (y.ramps.length : Int)) = False := eq_false (by omega)
   obtain rfl : i = y.ramps.length := by omega
   rw [List.drop_length, rasErr] at he
   rw [if_pos he] at e1
   simp (maxSteps := 1000000) only [VL,VM,↓VG,reduceIte,reduceCtorEq,zA,zB,zC,zD,zE,zF,zG,zH,zI,zJ, k2]
   ((repeat refine Ws ?_);refine Wf (by first|rfl|simp only [EV,zF,reduceIte]) ?_)
   ((repeat refine Ws ?_);refine W_exit ?_)
   simp (maxSteps := 1000000) only [VL,VM,↓VG,reduceIte,reduceCtorEq,zA,zB,zC,zD,zE,zF,zG,zH,zI,zJ]
   ((repeat refine Ws ?_);refine Wr ?_)
   by_cases h2 : 7 < y.carts.length
   ·have k : (7 < (y.carts.length : Int)) = True := eq_true (by omega)
    rw [if_pos h2] at e1
    simp (maxSteps := 1000000) only [VL,VM,↓VG,reduceIte,reduceCtorEq,zA,zB,zC,zD,zE,zF,zG,zH,zI,zJ, k]
    ((repeat refine Ws ?_);refine Wt (by first|rfl|simp only [EV,zF,reduceIte]) ?_)
    ((repeat refine Ws ?_);refine Wr ?_)
    simp (maxSteps := 1000000) only [VL,VM,↓VG,reduceIte,reduceCtorEq,zA,zB,zC,zD,zE,zF,zG,zH,zI,zJ]
    (repeat refine Ws ?_)
    refine W_ret ?_
    try simp only [thenQ, blockQ]
    refine own_ret1 rfl ?_ (by rfl)
    simp only [get_cons, frz, vtup, Nat.reduceEqDiff, if_true, if_false, reduceIte]
    rw [e1]
   have k : (7 < (y.carts.length : Int)) = False := eq_false (by omega)
   rw [if_neg h2] at e1
   simp (maxSteps := 1000000) only [VL,VM,↓VG,reduceIte,reduceCtorEq,zA,zB,zC,zD,zE,zF,zG,zH,zI,zJ, k]
   ((repeat refine Ws ?_);refine Wf (by first|rfl|simp only [EV,zF,reduceIte]) ?_)
   ((repeat refine Ws ?_);refine W_skip ?_)
   simp (maxSteps := 1000000) only [VL,VM,↓VG,reduceIte,reduceCtorEq,zA,zB,zC,zD,zE,zF,zG,zH,zI,zJ]
   ((repeat refine Ws ?_);refine Wr ?_)
   simp (maxSteps := 1000000) only [VL,VM,↓VG,reduceIte,reduceCtorEq,zA,zB,zC,zD,zE,zF,zG,zH,zI,zJ]
   ((repeat refine Ws ?_);refine W_block ?_; (repeat refine Ws ?_)); refine W_loopS (fun (s : Nat × List VObj) => [(1, .ptr M.H.length 0), (37, ctsV y.carts), (38, vi y.carts.length), (39, vi s.1)]) (fun s => ⟨M.H ++ .obj (yardC y) :: s.2, M.lg⟩) (fun s => y.carts.length - s.1) (fun s => s.1 ≤ y.carts.length ∧ ctsErr y.ramps.length y.carts = ctsErr y.ramps.length (y.carts.drop s.1)) (0, _) ⟨by simp, rfl⟩ ⟨rfl, rfl, rfl, rfl, trivial⟩ rfl ?_
   ·rintro ⟨i, L⟩ ⟨hi, he⟩
    simp only at hi he
    have k1 : -9223372036854775808 ≤ (i : Int) + 1 ∧ (i : Int) + 1 < 9223372036854775808 := by omega
    ((repeat refine Ws ?_);refine Wr ?_)
    rcases Nat.lt_or_ge i y.carts.length with hlt | hge
    ·have k2 : ((i : Int) < (y.carts.length : Int)) = True := eq_true (by omega)
     have hx : y.carts[i]? = some y.carts[i] := List.getElem?_eq_getElem hlt
     have hx' := map_at (f := ctP) hx
     have hll := hl _ (List.getElem_mem hlt)
     rw [ctsErr_at hlt] at he
     generalize hr : y.carts[i] = r at hx hx' he hll
     simp (maxSteps := 1000000) only [VL,VM,↓VG,reduceIte,reduceCtorEq,zA,zB,zC,zD,zE,zF,zG,zH,zI,zJ, k2]
     ((repeat refine Ws ?_);refine Wt (by first|rfl|simp only [EV,zF,reduceIte]) ?_)
     ((repeat refine Ws ?_);refine W_skip ?_)
     simp (maxSteps := 1000000) only [VL,VM,↓VG,reduceIte,reduceCtorEq,zA,zB,zC,zD,zE,zF,zG,zH,zI,zJ]
     ((repeat refine Ws ?_);refine W_block ?_)
     ((repeat refine Ws ?_);refine Wr ?_)
     simp (maxSteps := 1000000) only [VL,VM,↓VG,reduceIte,reduceCtorEq,zA,zB,zC,zD,zE,zF,zG,zH,zI,zJ, hx']
     ((repeat refine Ws ?_);refine Wr ?_)
     simp (maxSteps := 1000000) only [VL,VM,↓VG,reduceIte,reduceCtorEq,zA,zB,zC,zD,zE,zF,zG,zH,zI,zJ]
     apply call_eq (f := 56) (fn := Tryz.f56) (by kernel_rfl) (by rfl)
     ·exact checkCart_v y r _ hn hll
     simp (maxSteps := 1000000) only [VL,VM,↓VG,reduceIte,reduceCtorEq,zA,zB,zC,zD,zE,zF,zG,zH,zI,zJ]
     ((repeat refine Ws ?_);refine Wr ?_)
     by_cases h3 : ctErr y.ramps.length r = 0
     ·rw [if_pos h3] at he
      simp (maxSteps := 1000000) only [VL,VM,↓VG,reduceIte,reduceCtorEq,zA,zB,zC,zD,zE,zF,zG,zH,zI,zJ, h3]
      ((repeat refine Ws ?_);refine Wf (by first|rfl|simp only [EV,zF,reduceIte]) ?_)
      ((repeat refine Ws ?_);refine W_skip ?_)
      simp (maxSteps := 1000000) only [VL,VM,↓VG,reduceIte,reduceCtorEq,zA,zB,zC,zD,zE,zF,zG,zH,zI,zJ]
      ((repeat refine Ws ?_);refine Wr ?_)
      simp (maxSteps := 1000000) only [VL,VM,↓VG,reduceIte,reduceCtorEq,zA,zB,zC,zD,zE,zF,zG,zH,zI,zJ, k1]
      exact LoopK.mk (i + 1, _) (by simp; omega) ⟨by simp; omega, he⟩ ⟨rfl, rfl, rfl, rfl, trivial⟩ rfl
     ·rw [if_neg h3] at he
      have h4 : ¬ ctsErr y.ramps.length y.carts = 0 := by rw [he]; exact h3
      rw [if_neg h4, he] at e1
      simp (maxSteps := 1000000) only [VL,VM,↓VG,reduceIte,reduceCtorEq,zA,zB,zC,zD,zE,zF,zG,zH,zI,zJ, h3]
      ((repeat refine Ws ?_);refine Wt (by first|rfl|simp only [EV,zF,reduceIte]) ?_)
      ((repeat refine Ws ?_);refine Wr ?_)
      simp (maxSteps := 1000000) only [VL,VM,↓VG,reduceIte,reduceCtorEq,zA,zB,zC,zD,zE,zF,zG,zH,zI,zJ]
      (repeat refine Ws ?_)
      refine W_ret ?_
      try simp only [thenQ, blockQ]
      refine own_ret1 rfl ?_ (by rfl)
      simp only [get_cons, frz, vtup, Nat.reduceEqDiff, if_true, if_false, reduceIte]
      rw [e1]
    ·have k2 : ((i : Int) < (y.carts.length : Int)) = False := eq_false (by omega)
     obtain rfl : i = y.carts.length := by omega
     rw [List.drop_length, ctsErr] at he
     rw [if_pos he] at e1
     simp (maxSteps := 1000000) only [VL,VM,↓VG,reduceIte,reduceCtorEq,zA,zB,zC,zD,zE,zF,zG,zH,zI,zJ, k2]
     ((repeat refine Ws ?_);refine Wf (by first|rfl|simp only [EV,zF,reduceIte]) ?_)
     ((repeat refine Ws ?_);refine W_exit ?_)
     simp (maxSteps := 1000000) only [VL,VM,↓VG,reduceIte,reduceCtorEq,zA,zB,zC,zD,zE,zF,zG,zH,zI,zJ]
     ((repeat refine Ws ?_);refine Wr ?_)
     simp (maxSteps := 1000000) only [VL,VM,↓VG,reduceIte,reduceCtorEq,zA,zB,zC,zD,zE,zF,zG,zH,zI,zJ]
     apply call_eq (f := 57) (fn := Tryz.f57) (by kernel_rfl) (by rfl)
     ·exact dawn_1 y.sweep _
     cases h6 : dawnB y.sweep
     ·rw [h6] at e1
      simp (maxSteps := 1000000) only [VL,VM,↓VG,reduceIte,reduceCtorEq,zA,zB,zC,zD,zE,zF,zG,zH,zI,zJ]
      ((repeat refine Ws ?_);refine Wt (by first|rfl|simp only [EV,zF,reduceIte]) ?_)
      ((repeat refine Ws ?_);refine Wr ?_)
      simp (maxSteps := 1000000) only [VL,VM,↓VG,reduceIte,reduceCtorEq,zA,zB,zC,zD,zE,zF,zG,zH,zI,zJ]
      (repeat refine Ws ?_)
      refine W_ret ?_
      try simp only [thenQ, blockQ]
      refine own_ret1 rfl ?_ (by rfl)
      simp only [get_cons, frz, vtup, Nat.reduceEqDiff, if_true, if_false, reduceIte]
      rw [e1]; rfl
     ·rw [h6, if_pos rfl] at e1
      simp (maxSteps := 1000000) only [VL,VM,↓VG,reduceIte,reduceCtorEq,zA,zB,zC,zD,zE,zF,zG,zH,zI,zJ]
      ((repeat refine Ws ?_);refine Wf (by first|rfl|simp only [EV,zF,reduceIte]) ?_)
      ((repeat refine Ws ?_);refine W_skip ?_)
      simp (maxSteps := 1000000) only [VL,VM,↓VG,reduceIte,reduceCtorEq,zA,zB,zC,zD,zE,zF,zG,zH,zI,zJ]
      ((repeat refine Ws ?_);refine Wr ?_)
      simp (maxSteps := 1000000) only [VL,VM,↓VG,reduceIte,reduceCtorEq,zA,zB,zC,zD,zE,zF,zG,zH,zI,zJ]
      (repeat refine Ws ?_)
      refine W_ret ?_
      try simp only [thenQ, blockQ]
      refine own_ret1 rfl ?_ (by rfl)
      simp only [get_cons, frz, vtup, Nat.reduceEqDiff, if_true, if_false, reduceIte]
      rw [e1]
end Go.Proofs.YtmiiipdgbkipjaaGreatDoor.Vm

/- Sets of carts, on values. (Vm) -/
namespace Go.Proofs.YtmiiipdgbkipjaaGreatDoor.Vm
open Go Go.Proofs
section
variable (t a : Nat)
theorem u8_and1 (ha : a < 256) : vbin T .and t (su a) (.p (.int .u8 1)) = some (su (a &&& 1)) := u8_and t a 1 ha (by decide)
theorem u8_eql1 : vbin T .eql t (su a) (.p (.int .u8 1)) = some (vb (decide (a = 1))) := u8_eql t a 1
theorem u8_gtr0 : vbin T .gtr t (su a) (.p (.int .u8 0)) = some (vb (decide (0 < a))) := u8_gtr t a 0
theorem u8_shl1 (c : Nat) (hc : c ≤ 7) : vbin T .shl t (.p (.int .u8 1)) (vi c) = some (su (2 ^ c)) := u8_shl t c hc
theorem u8_add1 (h : a + 1 < 256) : vbin T .add t (su a) (.p (.int .u8 1)) = some (su (a + 1)) := u8_add t a 1 h
theorem u8_sub1 (h : 1 ≤ a) (ha : a < 256) : vbin T .sub t (su a) (.p (.int .u8 1)) = some (su (a - 1)) := u8_sub t a 1 h ha
end
theorem bit_eq (s c : Nat) : decide ((s >>> c) &&& 1 = 1) = s.testBit c := by
 rw [Nat.testBit_eq_decide_div_mod_eq, Nat.and_one_is_mod, Nat.shiftRight_eq_div_pow]
theorem has_v (s c : Nat) (M : Mem) (hs : s < 256) (hc : c ≤ 8) : VC Tryz.prog 68 [su s, vi c] M (fun r M' => M' = M ∧ r = vb (s.testBit c)) := by
 have h1 : s >>> c < 256 := by
  rw [Nat.shiftRight_eq_div_pow]
  exact Nat.lt_of_le_of_lt (Nat.div_le_self _ _) hs
 refine VC_own' T_ok (f := 68) (fn := Tryz.f68) (by kernel_rfl) rfl Tryz.ntmps68 (by rfl) (by rfl) ?_
 ((repeat refine Ws ?_);refine W_regionE T_ok ?_; intro Kn hKn)
 ((simp (maxSteps := 1000000) only [VL,VM,↓VG,reduceIte,reduceCtorEq,zA,zB,zC,zD,zE,zF,zG,zH,zI,zJ]); rw [hKn];clear hKn Kn;simp only [QV,reduceIte,reduceCtorEq,Nat.reduceEqDiff])
 ((repeat refine Ws ?_);refine W_regionE T_ok ?_; intro Kn hKn)
 ((simp (maxSteps := 1000000) only [VL,VM,↓VG,reduceIte,reduceCtorEq,zA,zB,zC,zD,zE,zF,zG,zH,zI,zJ, u8_shr, hc, u8_and1, h1, u8_eql1, bit_eq]); rw [hKn];clear hKn Kn;simp only [QV,reduceIte,reduceCtorEq,Nat.reduceEqDiff])
 (repeat refine Ws ?_)
 refine W_ret ?_
 try simp only [thenQ, blockQ]
 refine own_ret10 rfl ?_ (by rfl)
 simp only [get_cons, frz, vtup, Nat.reduceEqDiff, if_true, if_false, reduceIte]
theorem one_s (c : Nat) (M : Mem) (hc : c ≤ 7) : VC Tryz.prog 42 [vi c] M (fun r M' => M' = M ∧ r = su (2 ^ c)) := by
 refine VC_own' T_ok (f := 42) (fn := Tryz.f42) (by kernel_rfl) rfl Tryz.ntmps42 (by rfl) (by rfl) ?_
 ((repeat refine Ws ?_);refine W_regionE T_ok ?_; intro Kn hKn)
 ((simp (maxSteps := 1000000) only [VL,VM,↓VG,reduceIte,reduceCtorEq,zA,zB,zC,zD,zE,zF,zG,zH,zI,zJ]); rw [hKn];clear hKn Kn;simp only [QV,reduceIte,reduceCtorEq,Nat.reduceEqDiff])
 ((repeat refine Ws ?_);refine W_regionE T_ok ?_; intro Kn hKn)
 ((simp (maxSteps := 1000000) only [VL,VM,↓VG,reduceIte,reduceCtorEq,zA,zB,zC,zD,zE,zF,zG,zH,zI,zJ, u8_shl1, hc]); rw [hKn];clear hKn Kn;simp only [QV,reduceIte,reduceCtorEq,Nat.reduceEqDiff])
 (repeat refine Ws ?_)
 refine W_ret ?_
 try simp only [thenQ, blockQ]
 refine own_ret10 rfl ?_ (by rfl)
 simp only [get_cons, frz, vtup, Nat.reduceEqDiff, if_true, if_false, reduceIte]
theorem list_s (s : Nat) (M : Mem) (hs : s < 128) : VC Tryz.prog 46 [su s] M (fun r M' => M' = M ∧ r = intsV ((bitsL s).map Int.ofNat)) := by
 have hs2 : s < 256 := by omega
 have hlen : ∀ i ≤ 7, ((List.range i).filter fun i => s.testBit i).length ≤ 7 := fun i hi => Nat.le_trans (List.length_filter_le _ _) (by simpa using hi)
 refine VC_own' T_ok (f := 46) (fn := Tryz.f46) (by kernel_rfl) rfl Tryz.ntmps46 (by rfl) (by rfl) ?_
 ((repeat refine Ws ?_);refine W_regionE T_ok ?_; intro Kn hKn)
 ((simp (maxSteps := 1000000) only [VL,VM,↓VG,reduceIte,reduceCtorEq,zA,zB,zC,zD,zE,zF,zG,zH,zI,zJ]); rw [hKn];clear hKn Kn;simp only [QV,reduceIte,reduceCtorEq,Nat.reduceEqDiff])
 ((repeat refine Ws ?_);refine W_regionE T_ok ?_; intro Kn hKn)
 ((simp (maxSteps := 1000000) only [VL,VM,↓VG,reduceIte,reduceCtorEq,zA,zB,zC,zD,zE,zF,zG,zH,zI,zJ]); rw [hKn];clear hKn Kn;simp only [QV,reduceIte,reduceCtorEq,Nat.reduceEqDiff])
 (repeat refine Ws ?_)
 refine W_tok (t := 3) (k := 1) rfl ?_
 ((repeat refine Ws ?_);refine W_regionE T_ok ?_; intro Kn hKn)
 ((simp (maxSteps := 1000000) only [VL,VM,↓VG,reduceIte,reduceCtorEq,zA,zB,zC,zD,zE,zF,zG,zH,zI,zJ]); rw [hKn];clear hKn Kn;simp only [QV,reduceIte,reduceCtorEq,Nat.reduceEqDiff])
 ((repeat refine Ws ?_);refine W_block ?_; (repeat refine Ws ?_)); refine W_loopS (fun i : Nat => [(0, su s), (3, .so M.H.length 1 ((((List.range i).filter fun i => s.testBit i).map Int.ofNat).map intP)), (5, vi i)]) (fun i => ⟨M.H ++ [.clm ((List.range i).filter fun i => s.testBit i).length 1], M.lg⟩) (fun i => 7 - i) (fun i => i ≤ 7) 0 (by decide) ⟨rfl, rfl, rfl, trivial⟩ rfl ?_
 intro i hi
 have k1 : -9223372036854775808 ≤ (i : Int) + 1 ∧ (i : Int) + 1 < 9223372036854775808 := by omega
 have hr : (List.range (i + 1)).filter (fun i => s.testBit i) = (List.range i).filter (fun i => s.testBit i) ++ if s.testBit i then [i] else [] := by
  rw [List.range_succ, List.filter_append]
  congr 1
  cases h : s.testBit i <;> simp [h]
 have hl := hlen i hi
 ((repeat refine Ws ?_);refine W_regionE T_ok ?_; intro Kn hKn)
 rcases Nat.lt_or_ge i 7 with hlt | hge
 ·have k2 : ((i : Int) < 7) = True := eq_true (by omega)
  have q1 : ((((List.range i).filter fun i => s.testBit i).length + 1) * 8 ≤ 140737488355328) = True := eq_true (by omega)
  generalize (List.range i).filter (fun i => s.testBit i) = l at hr q1 ⊢
  ((simp (maxSteps := 1000000) only [VL,VM,↓VG,reduceIte,reduceCtorEq,zA,zB,zC,zD,zE,zF,zG,zH,zI,zJ, k2]); rw [hKn];clear hKn Kn;simp only [QV,reduceIte,reduceCtorEq,Nat.reduceEqDiff])
  ((repeat refine Ws ?_);refine Wt (by first|rfl|simp only [EV,zF,reduceIte]) ?_)
  (((repeat refine Ws ?_);refine W_skip ?_); simp only [QV,reduceIte,reduceCtorEq,Nat.reduceEqDiff])
  ((repeat refine Ws ?_);refine W_block ?_)
  ((repeat refine Ws ?_);refine W_regionE T_ok ?_; intro Kn hKn)
  ((simp (maxSteps := 1000000) only [VL,VM,↓VG,reduceIte,reduceCtorEq,zA,zB,zC,zD,zE,zF,zG,zH,zI,zJ]); rw [hKn];clear hKn Kn;simp only [QV,reduceIte,reduceCtorEq,Nat.reduceEqDiff])
  ((repeat refine Ws ?_);refine W_regionE T_ok ?_; intro Kn hKn)
  simp (maxSteps := 1000000) only [VL,VM,↓VG,reduceIte,reduceCtorEq,zA,zB,zC,zD,zE,zF,zG,zH,zI,zJ]
  apply call_eq (f := 68) (fn := Tryz.f68) (by kernel_rfl) (by rfl)
  ·exact has_v s i _ hs2 (by omega)
  ((simp (maxSteps := 1000000) only [VL,VM,↓VG,reduceIte,reduceCtorEq,zA,zB,zC,zD,zE,zF,zG,zH,zI,zJ]); rw [hKn];clear hKn Kn;simp only [QV,reduceIte,reduceCtorEq,Nat.reduceEqDiff])
  cases hb : s.testBit i
  ·rw [hb] at hr
   simp only [Bool.false_eq_true, if_false, List.append_nil] at hr
   ((repeat refine Ws ?_);refine Wf (by first|rfl|simp only [EV,zF,reduceIte]) ?_)
   (((repeat refine Ws ?_);refine W_skip ?_); simp only [QV,reduceIte,reduceCtorEq,Nat.reduceEqDiff])
   ((repeat refine Ws ?_);refine W_regionE T_ok ?_; intro Kn hKn)
   ((simp (maxSteps := 1000000) only [VL,VM,↓VG,reduceIte,reduceCtorEq,zA,zB,zC,zD,zE,zF,zG,zH,zI,zJ, k1]); rw [hKn];clear hKn Kn;simp only [QV,reduceIte,reduceCtorEq,Nat.reduceEqDiff])
   exact LoopK.mk (i + 1) (by omega) (by omega) ⟨rfl, by rw [hr]; rfl, rfl, trivial⟩ (by rw [hr])
  ·rw [hb] at hr
   simp only [if_true] at hr
   ((repeat refine Ws ?_);refine Wt (by first|rfl|simp only [EV,zF,reduceIte]) ?_)
   ((repeat refine Ws ?_);refine W_regionE T_ok ?_; intro Kn hKn)
   ((simp (maxSteps := 1000000) only [VL,VM,↓VG,reduceIte,reduceCtorEq,zA,zB,zC,zD,zE,zF,zG,zH,zI,zJ, q1]); rw [hKn];clear hKn Kn;simp only [QV,reduceIte,reduceCtorEq,Nat.reduceEqDiff])
   ((repeat refine Ws ?_);refine W_regionE T_ok ?_; intro Kn hKn)
   ((simp (maxSteps := 1000000) only [VL,VM,↓VG,reduceIte,reduceCtorEq,zA,zB,zC,zD,zE,zF,zG,zH,zI,zJ, k1]); rw [hKn];clear hKn Kn;simp only [QV,reduceIte,reduceCtorEq,Nat.reduceEqDiff])
   exact LoopK.mk (i + 1) (by omega) (by omega) ⟨rfl, by rw [hr]; simp [get_cons], rfl, trivial⟩ (by rw [hr]; simp)
 ·have k2 : ((i : Int) < 7) = False := eq_false (by omega)
  obtain rfl : i = 7 := by omega
  ((simp (maxSteps := 1000000) only [VL,VM,↓VG,reduceIte,reduceCtorEq,zA,zB,zC,zD,zE,zF,zG,zH,zI,zJ, k2]); rw [hKn];clear hKn Kn;simp only [QV,reduceIte,reduceCtorEq,Nat.reduceEqDiff])
  ((repeat refine Ws ?_);refine Wf (by first|rfl|simp only [EV,zF,reduceIte]) ?_)
  (((repeat refine Ws ?_);refine W_exit ?_); simp only [QV,reduceIte,reduceCtorEq,Nat.reduceEqDiff])
  ((repeat refine Ws ?_);refine W_regionE T_ok ?_; intro Kn hKn)
  ((simp (maxSteps := 1000000) only [VL,VM,↓VG,reduceIte,reduceCtorEq,zA,zB,zC,zD,zE,zF,zG,zH,zI,zJ]); rw [hKn];clear hKn Kn;simp only [QV,reduceIte,reduceCtorEq,Nat.reduceEqDiff])
  (repeat refine Ws ?_)
  refine W_ret ?_
  try simp only [thenQ, blockQ]
  refine own_ret1 rfl ?_ (by rfl)
  simp only [get_cons, frz, vtup, Nat.reduceEqDiff, if_true, if_false, reduceIte]
  rfl
set_option maxRecDepth 100000 in
theorem ones_v (s : Nat) (M : Mem) (hs : s < 128) : VC Tryz.prog 69 [.p (.int .u8 s)] M (fun r M' => M' = M ∧ r = vi ((bitsL s).length : Nat)) := by
 refine VC_own' T_ok (f := 69) (fn := Tryz.f69) (by kernel_rfl) rfl Tryz.ntmps69 (by rfl) (by rfl) ?_
 generalize hB : (ByteArray.mk _) = B
 have hall : ∀ n < 128, B[n]? = some (UInt8.ofNat (bitsL n).length) := by
  rw [← hB]
  decide +kernel
 have h1 := hall s hs
 have h2 := bitsL_len (s := s)
 have h3 : (UInt8.ofNat (bitsL s).length).toNat = (bitsL s).length := by
  rw [UInt8.toNat_ofNat']
  omega
 have h4 : vconvert T 5 3 (.p (.int .u8 (((bitsL s).length : Nat) : Int))) = some (vi ((bitsL s).length : Nat)) := by
  simp only [vconvert, t_u8, t_int]
  have : Conv.intToInt .i64 (((bitsL s).length : Nat) : Int) = .pure (.int .i64 (IntKind.i64.wrap ((bitsL s).length : Nat))) := rfl
  rw [this, IntWalk.i64_in _ (by omega)]
  rfl
 ((repeat refine Ws ?_);refine W_regionE T_ok ?_; intro Kn hKn)
 ((simp (maxSteps := 1000000) only [VL,VM,↓VG,reduceIte,reduceCtorEq,zA,zB,zC,zD,zE,zF,zG,zH,zI,zJ]); rw [hKn];clear hKn Kn;simp only [QV,reduceIte,reduceCtorEq,Nat.reduceEqDiff])
 ((repeat refine Ws ?_);refine W_regionE T_ok ?_; intro Kn hKn)
 ((simp (maxSteps := 1000000) only [VL,VM,↓VG,reduceIte,reduceCtorEq,zA,zB,zC,zD,zE,zF,zG,zH,zI,zJ, idx_su, h1, h3, h4]); rw [hKn];clear hKn Kn;simp only [QV,reduceIte,reduceCtorEq,Nat.reduceEqDiff])
 (repeat refine Ws ?_)
 refine W_ret ?_
 try simp only [thenQ, blockQ]
 refine own_ret10 rfl ?_ (by rfl)
 simp only [get_cons, frz, vtup, Nat.reduceEqDiff, if_true, if_false, reduceIte]
theorem many_v (s : Nat) (M : Mem) (hs : s < 128) : VC Tryz.prog 45 [su s] M (fun r M' => M' = M ∧ r = vi ((bitsL s).length : Nat)) := by
 refine VC_own' T_ok (f := 45) (fn := Tryz.f45) (by kernel_rfl) rfl Tryz.ntmps45 (by rfl) (by rfl) ?_
 ((repeat refine Ws ?_);refine W_regionE T_ok ?_; intro Kn hKn)
 ((simp (maxSteps := 1000000) only [VL,VM,↓VG,reduceIte,reduceCtorEq,zA,zB,zC,zD,zE,zF,zG,zH,zI,zJ]); rw [hKn];clear hKn Kn;simp only [QV,reduceIte,reduceCtorEq,Nat.reduceEqDiff])
 ((repeat refine Ws ?_);refine W_regionE T_ok ?_; intro Kn hKn)
 simp (maxSteps := 1000000) only [VL,VM,↓VG,reduceIte,reduceCtorEq,zA,zB,zC,zD,zE,zF,zG,zH,zI,zJ]
 apply call_eq (f := 69) (fn := Tryz.f69) (by kernel_rfl) (by rfl)
 ·exact ones_v s _ hs
 ((simp (maxSteps := 1000000) only [VL,VM,↓VG,reduceIte,reduceCtorEq,zA,zB,zC,zD,zE,zF,zG,zH,zI,zJ]); rw [hKn];clear hKn Kn;simp only [QV,reduceIte,reduceCtorEq,Nat.reduceEqDiff])
 (repeat refine Ws ?_)
 refine W_ret ?_
 try simp only [thenQ, blockQ]
 refine own_ret10 rfl ?_ (by rfl)
 simp only [get_cons, frz, vtup, Nat.reduceEqDiff, if_true, if_false, reduceIte]
end Go.Proofs.YtmiiipdgbkipjaaGreatDoor.Vm

/- Plans, plain: whether they hold, and when carts are away. -/
namespace Go.Proofs.YtmiiipdgbkipjaaGreatDoor
abbrev Ra0 : Ra := ⟨0, 0, 0⟩
abbrev Ct0 : Ct := ⟨0, 0, ⟨0, 0⟩, 0, []⟩
abbrev St0 : St := ⟨0, 0⟩
def raAt (y : Ya) (r : Int) : Ra := y.ramps.getD r.toNat Ra0
def ctAt (y : Ya) (i : Nat) : Ct := y.carts.getD i Ct0
def stAt (p : List St) (i : Nat) : St := p.getD i St0
def tkAt (l : List Int) (i : Nat) : Int := l.getD i 0
theorem stAt_get {p : List St} {i : Nat} (h : i < p.length) : p[i]? = some (stAt p i) := by simp [stAt, h]
theorem ctAt_get {y : Ya} {i : Nat} (h : i < y.carts.length) : y.carts[i]? = some (ctAt y i) := by simp [ctAt, h]
theorem raAt_get {y : Ya} {r : Int} (h0 : 0 ≤ r) (h : r < y.ramps.length) : y.ramps[r.toNat]? = some (raAt y r) := by
 have : r.toNat < y.ramps.length := by omega
 simp [raAt, this]
theorem stAt_mem {p : List St} {i : Nat} (h : i < p.length) : stAt p i ∈ p := List.mem_of_getElem? (stAt_get h)
theorem ctAt_mem {y : Ya} {i : Nat} (h : i < y.carts.length) : ctAt y i ∈ y.carts := List.mem_of_getElem? (ctAt_get h)
theorem raAt_mem {y : Ya} {r : Int} (h0 : 0 ≤ r) (h : r < y.ramps.length) : raAt y r ∈ y.ramps := List.mem_of_getElem? (raAt_get h0 h)
def awayL (y : Ya) (p : List St) : List Sp := (p.zip y.carts).map fun x => ⟨x.1.from_ + x.2.takes.lo, x.1.from_ + x.2.takes.hi⟩
structure PlV (y : Ya) (p : List St) : Prop where
 len : p.length = y.carts.length
 r0 : ∀ i, i < p.length → 0 ≤ (stAt p i).ramp
 r1 : ∀ i, i < p.length → (stAt p i).ramp < y.ramps.length
 mem : ∀ i, i < p.length → (stAt p i).ramp ∈ (ctAt y i).ramps
 br : ∀ i, i < p.length → (ctAt y i).grams ≤ (raAt y (stAt p i).ramp).bears
 f0 : ∀ i, i < p.length → 0 ≤ (stAt p i).from_
 f1 : ∀ i, i < p.length → (stAt p i).from_ ≤ 480
end Go.Proofs.YtmiiipdgbkipjaaGreatDoor

/- Plans, plain: the last one away, and which plan comes before. -/
namespace Go.Proofs.YtmiiipdgbkipjaaGreatDoor
def lastV (y : Ya) (p : List St) : Int := (awayL y p).foldl (fun m s => max m s.hi) 0
def sltB (a b : St) : Bool := decide (a.ramp < b.ramp) || (decide (a.ramp = b.ramp) && decide (a.from_ < b.from_))
def beforeB : List St → List St → Bool
 | a :: x, b :: z => if a = b then beforeB x z else sltB a b
 | _, _ => false
end Go.Proofs.YtmiiipdgbkipjaaGreatDoor
