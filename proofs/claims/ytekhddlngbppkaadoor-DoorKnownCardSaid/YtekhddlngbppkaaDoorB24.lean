/- A part of the proofs about the chapter of the doors; it states no condition of its own. -/
import Derived.Test.YtekhddlngbppkaaDoorB19
import Derived.Test.YtekhddlngbppkaaDoorB23
set_option linter.unusedVariables false
set_option linter.unusedSimpArgs false
open Int renaming reduceLE → zA, reduceLT → zB, reduceToNat → zC, reduceNeg → zD
open Nat renaming reduceLT → zE, reduceEqDiff → zF, reduceAdd → zG, reduceSub → zH, reduceMul → zI, reduceLeDiff → zJ
/- Kitchens: the check, and whether a serving fits, on values. (Vm) -/
namespace Go.Proofs.YtekhddlngbppkaaDoor.Vm
open Go Go.Proofs
theorem portions_v (n : Int) (M : Mem) : VC Tryd.prog 49 [vi n] M (fun r M' => M' = M ∧ r = vb (inR n 0 10000)) := by
 refine VC_own' T_ok (f := 49) (fn := Tryd.f49) (by kernel_rfl) rfl Tryd.ntmps49 (by rfl) (by rfl) ?_
 ((repeat refine Ws ?_);refine Wr ?_)
 simp (maxSteps := 1000000) only [VL,VM,↓VG,reduceIte,reduceCtorEq,zA,zB,zC,zD,zE,zF,zG,zH,zI,zJ]
 ((repeat refine Ws ?_);refine Wr ?_)
 simp (maxSteps := 1000000) only [VL,VM,↓VG,reduceIte,reduceCtorEq,zA,zB,zC,zD,zE,zF,zG,zH,zI,zJ]
 apply call_eq (f := 21) (fn := Tryd.f21) (by kernel_rfl) (by rfl)
 ·exact in_v _ _ _ _
 simp (maxSteps := 1000000) only [VL,VM,↓VG,reduceIte,reduceCtorEq,zA,zB,zC,zD,zE,zF,zG,zH,zI,zJ]
 (repeat refine Ws ?_)
 refine W_ret ?_
 try simp only [thenQ, blockQ]
 refine own_ret10 rfl ?_ (by rfl)
 simp only [get_cons, frz, vtup, Nat.reduceEqDiff, if_true, if_false, reduceIte]
set_option maxHeartbeats 1000000 in
set_option maxRecDepth 8000 in
theorem kit_v (k : Kn) (M : Mem) (hl : k.meals.length ≤ 1000000) (hlg : k.gifts.length ≤ 1000000) : VC Tryd.prog 35 [kitV k] M (fun r M' => M' = M ∧ r = vi (kitErr k)) := by
 refine VC_own' T_ok (f := 35) (fn := Tryd.f35) (by kernel_rfl) rfl Tryd.ntmps35 (by rfl) (by rfl) ?_
 ((repeat refine Ws ?_);refine Wr ?_)
 simp (maxSteps := 1000000) only [VL,VM,↓VG,reduceIte,reduceCtorEq,zA,zB,zC,zD,zE,zF,zG,zH,zI,zJ]
 have e1 : kitErr k = kitErr k := rfl
 conv at e1 => rhs; unfold kitErr
 ((repeat refine Ws ?_);refine Wr ?_)
 by_cases a1 : 5 < k.meals.length
 ·have q : ((5 : Int) < (k.meals.length : Int)) = True := eq_true (by omega)
  rw [if_pos a1] at e1
  simp (maxSteps := 1000000) only [VL,VM,↓VG,reduceIte,reduceCtorEq,zA,zB,zC,zD,zE,zF,zG,zH,zI,zJ, q]
  ((repeat refine Ws ?_);refine Wt (by first|rfl|simp only [EV,zF,reduceIte]) ?_)
  ((repeat refine Ws ?_);refine Wr ?_)
  simp (maxSteps := 1000000) only [VL,VM,↓VG,reduceIte,reduceCtorEq,zA,zB,zC,zD,zE,zF,zG,zH,zI,zJ]
  (repeat refine Ws ?_)
  refine W_ret ?_
  try simp only [thenQ, blockQ]
  refine own_ret1 rfl ?_ (by rfl)
  simp only [get_cons, frz, vtup, Nat.reduceEqDiff, if_true, if_false, reduceIte]
  rw [e1]
 have q : ((5 : Int) < (k.meals.length : Int)) = False := eq_false (by omega)
 rw [if_neg a1] at e1
 simp (maxSteps := 1000000) only [VL,VM,↓VG,reduceIte,reduceCtorEq,zA,zB,zC,zD,zE,zF,zG,zH,zI,zJ, q]
 ((repeat refine Ws ?_);refine Wf (by first|rfl|simp only [EV,zF,reduceIte]) ?_)
 ((repeat refine Ws ?_);refine W_skip ?_)
 simp (maxSteps := 1000000) only [VL,VM,↓VG,reduceIte,reduceCtorEq,zA,zB,zC,zD,zE,zF,zG,zH,zI,zJ]
 ((repeat refine Ws ?_);refine Wr ?_)
 simp (maxSteps := 1000000) only [VL,VM,↓VG,reduceIte,reduceCtorEq,zA,zB,zC,zD,zE,zF,zG,zH,zI,zJ]
 ((repeat refine Ws ?_);refine W_block ?_; (repeat refine Ws ?_)); refine W_loopS (fun i : Nat => [(0, kitV k), (1, .ptr M.H.length 0), (13, intsV k.meals), (14, vi k.meals.length), (15, vi i)]) (fun _ => ⟨M.H ++ [.obj (kitC k)], M.lg⟩) (fun i => k.meals.length - i) (fun i => i ≤ k.meals.length ∧ (k.meals.take i).all (fun n => inR n 0 10000) = true) 0 ⟨Nat.zero_le _, rfl⟩ ⟨rfl, rfl, rfl, rfl, rfl, trivial⟩ rfl ?_
 rintro i ⟨hi, hal⟩
 have k1 : -9223372036854775808 ≤ (i : Int) + 1 ∧ (i : Int) + 1 < 9223372036854775808 := by omega
 ((repeat refine Ws ?_);refine Wr ?_)
 rcases Nat.lt_or_ge i k.meals.length with hlt | hge
 ·have k2 : ((i : Int) < (k.meals.length : Int)) = True := eq_true (by omega)
  have hx : k.meals[i]? = some k.meals[i] := List.getElem?_eq_getElem hlt
  have hm := List.getElem_mem hlt
  generalize k.meals[i] = n at hx hm
  have hx' := map_at (f := intP) hx
  simp (maxSteps := 1000000) only [VL,VM,↓VG,reduceIte,reduceCtorEq,zA,zB,zC,zD,zE,zF,zG,zH,zI,zJ, k2]
  ((repeat refine Ws ?_);refine Wt (by first|rfl|simp only [EV,zF,reduceIte]) ?_)
  ((repeat refine Ws ?_);refine W_skip ?_)
  simp (maxSteps := 1000000) only [VL,VM,↓VG,reduceIte,reduceCtorEq,zA,zB,zC,zD,zE,zF,zG,zH,zI,zJ]
  ((repeat refine Ws ?_);refine W_block ?_)
  ((repeat refine Ws ?_);refine Wr ?_)
  simp (maxSteps := 1000000) only [VL,VM,↓VG,reduceIte,reduceCtorEq,zA,zB,zC,zD,zE,zF,zG,zH,zI,zJ, hx']
  ((repeat refine Ws ?_);refine Wr ?_)
  simp (maxSteps := 1000000) only [VL,VM,↓VG,reduceIte,reduceCtorEq,zA,zB,zC,zD,zE,zF,zG,zH,zI,zJ]
  apply call_eq (f := 49) (fn := Tryd.f49) (by kernel_rfl) (by rfl)
  ·exact portions_v n _
  simp (maxSteps := 1000000) only [VL,VM,↓VG,reduceIte,reduceCtorEq,zA,zB,zC,zD,zE,zF,zG,zH,zI,zJ]
  cases b : inR n 0 10000
  ·have hno : k.meals.all (fun n => inR n 0 10000) = false := List.all_eq_false.2 ⟨n, hm, by rw [b]; decide⟩
   rw [hno] at e1
   ((repeat refine Ws ?_);refine Wt (by first|rfl|simp only [EV,zF,reduceIte]) ?_)
   ((repeat refine Ws ?_);refine Wr ?_)
   simp (maxSteps := 1000000) only [VL,VM,↓VG,reduceIte,reduceCtorEq,zA,zB,zC,zD,zE,zF,zG,zH,zI,zJ]
   (repeat refine Ws ?_)
   refine W_ret ?_
   try simp only [thenQ, blockQ]
   refine own_ret1 rfl ?_ (by rfl)
   simp only [get_cons, frz, vtup, Nat.reduceEqDiff, if_true, if_false, reduceIte]
   rw [e1]; rfl
  ((repeat refine Ws ?_);refine Wf (by first|rfl|simp only [EV,zF,reduceIte]) ?_)
  ((repeat refine Ws ?_);refine W_skip ?_)
  simp (maxSteps := 1000000) only [VL,VM,↓VG,reduceIte,reduceCtorEq,zA,zB,zC,zD,zE,zF,zG,zH,zI,zJ]
  ((repeat refine Ws ?_);refine Wr ?_)
  simp (maxSteps := 1000000) only [VL,VM,↓VG,reduceIte,reduceCtorEq,zA,zB,zC,zD,zE,zF,zG,zH,zI,zJ, k1]
  refine LoopK.mk (i + 1) (by omega) ⟨by omega, ?_⟩ ⟨rfl, rfl, rfl, rfl, rfl, trivial⟩ rfl
  rw [List.take_add_one, hx, List.all_append, hal, Bool.true_and]
  simp [b]
 have k2 : ((i : Int) < (k.meals.length : Int)) = False := eq_false (by omega)
 have hi3 : i = k.meals.length := by omega
 subst hi3
 rw [List.take_length] at hal
 rw [hal, if_pos rfl] at e1
 simp (maxSteps := 1000000) only [VL,VM,↓VG,reduceIte,reduceCtorEq,zA,zB,zC,zD,zE,zF,zG,zH,zI,zJ, k2]
 ((repeat refine Ws ?_);refine Wf (by first|rfl|simp only [EV,zF,reduceIte]) ?_)
 ((repeat refine Ws ?_);refine W_exit ?_)
 simp (maxSteps := 1000000) only [VL,VM,↓VG,reduceIte,reduceCtorEq,zA,zB,zC,zD,zE,zF,zG,zH,zI,zJ]
 ((repeat refine Ws ?_);refine Wr ?_)
 by_cases a2 : 5 < k.gifts.length
 ·have q : ((5 : Int) < (k.gifts.length : Int)) = True := eq_true (by omega)
  rw [if_pos a2] at e1
  simp (maxSteps := 1000000) only [VL,VM,↓VG,reduceIte,reduceCtorEq,zA,zB,zC,zD,zE,zF,zG,zH,zI,zJ, q]
  ((repeat refine Ws ?_);refine Wt (by first|rfl|simp only [EV,zF,reduceIte]) ?_)
  ((repeat refine Ws ?_);refine Wr ?_)
  simp (maxSteps := 1000000) only [VL,VM,↓VG,reduceIte,reduceCtorEq,zA,zB,zC,zD,zE,zF,zG,zH,zI,zJ]
  (repeat refine Ws ?_)
  refine W_ret ?_
  try simp only [thenQ, blockQ]
  refine own_ret1 rfl ?_ (by rfl)
  simp only [get_cons, frz, vtup, Nat.reduceEqDiff, if_true, if_false, reduceIte]
  rw [e1]
 have q : ((5 : Int) < (k.gifts.length : Int)) = False := eq_false (by omega)
 rw [if_neg a2] at e1
 simp (maxSteps := 1000000) only [VL,VM,↓VG,reduceIte,reduceCtorEq,zA,zB,zC,zD,zE,zF,zG,zH,zI,zJ, q]
 ((repeat refine Ws ?_);refine Wf (by first|rfl|simp only [EV,zF,reduceIte]) ?_)
 ((repeat refine Ws ?_);refine W_skip ?_)
 simp (maxSteps := 1000000) only [VL,VM,↓VG,reduceIte,reduceCtorEq,zA,zB,zC,zD,zE,zF,zG,zH,zI,zJ]
 ((repeat refine Ws ?_);refine Wr ?_)
 simp (maxSteps := 1000000) only [VL,VM,↓VG,reduceIte,reduceCtorEq,zA,zB,zC,zD,zE,zF,zG,zH,zI,zJ]
 have k3 : -9223372036854775808 ≤ (k.meals.length : Int) - 1 ∧ (k.meals.length : Int) - 1 < 9223372036854775808 := by omega
 clear k1 k2 hge q hi
 ((repeat refine Ws ?_);refine W_block ?_; (repeat refine Ws ?_)); refine W_loopS (fun s : ChkSt => [(0, kitV k), (1, .ptr M.H.length 0), (28, gisV k.gifts), (29, vi k.gifts.length), (30, vi s.i)]) (fun s => ⟨M.H ++ (.obj (kitC k) :: s.junk), M.lg⟩) (fun s => k.gifts.length - s.i) (fun s => s.i ≤ k.gifts.length ∧ giftsErr k.meals.length k.gifts = giftsErr k.meals.length (k.gifts.drop s.i)) ⟨0, []⟩ ⟨Nat.zero_le _, rfl⟩ ⟨rfl, rfl, rfl, rfl, rfl, trivial⟩ rfl ?_
 rintro ⟨i, junk⟩ ⟨hi, hde⟩
 simp only at hi hde
 have k1 : -9223372036854775808 ≤ (i : Int) + 1 ∧ (i : Int) + 1 < 9223372036854775808 := by omega
 ((repeat refine Ws ?_);refine Wr ?_)
 rcases Nat.lt_or_ge i k.gifts.length with hlt | hge
 ·have k2 : ((i : Int) < (k.gifts.length : Int)) = True := eq_true (by omega)
  have hx : k.gifts[i]? = some k.gifts[i] := List.getElem?_eq_getElem hlt
  generalize k.gifts[i] = x at hx
  have hx' := map_at (f := giP) hx
  have hst := giftsErr_drop hx hde
  have e2 : giErr k.meals.length x = giErr k.meals.length x := rfl
  conv at e2 => rhs; unfold giErr
  simp (maxSteps := 1000000) only [VL,VM,↓VG,reduceIte,reduceCtorEq,zA,zB,zC,zD,zE,zF,zG,zH,zI,zJ, k2]
  ((repeat refine Ws ?_);refine Wt (by first|rfl|simp only [EV,zF,reduceIte]) ?_)
  ((repeat refine Ws ?_);refine W_skip ?_)
  simp (maxSteps := 1000000) only [VL,VM,↓VG,reduceIte,reduceCtorEq,zA,zB,zC,zD,zE,zF,zG,zH,zI,zJ]
  ((repeat refine Ws ?_);refine W_block ?_)
  ((repeat refine Ws ?_);refine Wr ?_)
  simp (maxSteps := 1000000) only [VL,VM,↓VG,reduceIte,reduceCtorEq,zA,zB,zC,zD,zE,zF,zG,zH,zI,zJ, hx']
  ((repeat refine Ws ?_);refine Wr ?_)
  simp (maxSteps := 1000000) only [VL,VM,↓VG,reduceIte,reduceCtorEq,zA,zB,zC,zD,zE,zF,zG,zH,zI,zJ, k3]
  ((repeat refine Ws ?_);refine W_block ?_)
  ((repeat refine Ws ?_);refine Wr ?_)
  simp (maxSteps := 1000000) only [VL,VM,↓VG,reduceIte,reduceCtorEq,zA,zB,zC,zD,zE,zF,zG,zH,zI,zJ]
  apply call_eq (f := 21) (fn := Tryd.f21) (by kernel_rfl) (by rfl)
  ·exact in_v _ _ _ _
  cases b1 : inR x.from_ 0 ((k.meals.length : Int) - 1)
  ·rw [b1] at e2
   rw [e2] at hst
   simp (maxSteps := 1000000) only [VL,VM,↓VG,reduceIte,reduceCtorEq,zA,zB,zC,zD,zE,zF,zG,zH,zI,zJ]
   ((repeat refine Ws ?_);refine Wt (by first|rfl|simp only [EV,zF,reduceIte]) ?_)
   ((repeat refine Ws ?_);refine W_skip ?_)
   simp (maxSteps := 1000000) only [VL,VM,↓VG,reduceIte,reduceCtorEq,zA,zB,zC,zD,zE,zF,zG,zH,zI,zJ]
   ((repeat refine Ws ?_);refine Wt (by first|rfl|simp only [EV,zF,reduceIte]) ?_)
   ((repeat refine Ws ?_);refine Wr ?_)
   simp (maxSteps := 1000000) only [VL,VM,↓VG,reduceIte,reduceCtorEq,zA,zB,zC,zD,zE,zF,zG,zH,zI,zJ]
   (repeat refine Ws ?_)
   refine W_ret ?_
   try simp only [thenQ, blockQ]
   refine own_ret1 rfl ?_ (by rfl)
   simp only [get_cons, frz, vtup, Nat.reduceEqDiff, if_true, if_false, reduceIte]
   rw [e1, hst]; rfl
  rw [b1] at e2
  simp (maxSteps := 1000000) only [VL,VM,↓VG,reduceIte,reduceCtorEq,zA,zB,zC,zD,zE,zF,zG,zH,zI,zJ]
  ((repeat refine Ws ?_);refine Wf (by first|rfl|simp only [EV,zF,reduceIte]) ?_)
  ((repeat refine Ws ?_);refine Wr ?_)
  simp (maxSteps := 1000000) only [VL,VM,↓VG,reduceIte,reduceCtorEq,zA,zB,zC,zD,zE,zF,zG,zH,zI,zJ]
  apply call_eq (f := 21) (fn := Tryd.f21) (by kernel_rfl) (by rfl)
  ·exact in_v _ _ _ _
  cases b2 : inR x.keeps 0 ((k.meals.length : Int) - 1)
  ·rw [b2] at e2
   rw [e2] at hst
   simp (maxSteps := 1000000) only [VL,VM,↓VG,reduceIte,reduceCtorEq,zA,zB,zC,zD,zE,zF,zG,zH,zI,zJ]
   ((repeat refine Ws ?_);refine Wt (by first|rfl|simp only [EV,zF,reduceIte]) ?_)
   ((repeat refine Ws ?_);refine Wr ?_)
   simp (maxSteps := 1000000) only [VL,VM,↓VG,reduceIte,reduceCtorEq,zA,zB,zC,zD,zE,zF,zG,zH,zI,zJ]
   (repeat refine Ws ?_)
   refine W_ret ?_
   try simp only [thenQ, blockQ]
   refine own_ret1 rfl ?_ (by rfl)
   simp only [get_cons, frz, vtup, Nat.reduceEqDiff, if_true, if_false, reduceIte]
   rw [e1, hst]; rfl
  rw [b2, if_pos (show (true && true) = true from rfl)] at e2
  simp (maxSteps := 1000000) only [VL,VM,↓VG,reduceIte,reduceCtorEq,zA,zB,zC,zD,zE,zF,zG,zH,zI,zJ]
  ((repeat refine Ws ?_);refine Wf (by first|rfl|simp only [EV,zF,reduceIte]) ?_)
  ((repeat refine Ws ?_);refine Wr ?_)
  by_cases b3 : x.keeps < x.from_
  ·have q : (x.keeps < x.from_) = True := eq_true b3
   rw [if_pos b3] at e2
   rw [e2] at hst
   simp (maxSteps := 1000000) only [VL,VM,↓VG,reduceIte,reduceCtorEq,zA,zB,zC,zD,zE,zF,zG,zH,zI,zJ, q]
   ((repeat refine Ws ?_);refine Wt (by first|rfl|simp only [EV,zF,reduceIte]) ?_)
   ((repeat refine Ws ?_);refine Wr ?_)
   simp (maxSteps := 1000000) only [VL,VM,↓VG,reduceIte,reduceCtorEq,zA,zB,zC,zD,zE,zF,zG,zH,zI,zJ]
   (repeat refine Ws ?_)
   refine W_ret ?_
   try simp only [thenQ, blockQ]
   refine own_ret1 rfl ?_ (by rfl)
   simp only [get_cons, frz, vtup, Nat.reduceEqDiff, if_true, if_false, reduceIte]
   rw [e1, hst]; rfl
  have q : (x.keeps < x.from_) = False := eq_false b3
  rw [if_neg b3] at e2
  simp (maxSteps := 1000000) only [VL,VM,↓VG,reduceIte,reduceCtorEq,zA,zB,zC,zD,zE,zF,zG,zH,zI,zJ, q]
  ((repeat refine Ws ?_);refine Wf (by first|rfl|simp only [EV,zF,reduceIte]) ?_)
  ((repeat refine Ws ?_);refine Wr ?_)
  simp (maxSteps := 1000000) only [VL,VM,↓VG,reduceIte,reduceCtorEq,zA,zB,zC,zD,zE,zF,zG,zH,zI,zJ]
  apply call_eq (f := 49) (fn := Tryd.f49) (by kernel_rfl) (by rfl)
  ·exact portions_v _ _
  cases b4 : inR x.portions 0 10000
  ·rw [b4] at e2
   rw [e2] at hst
   simp (maxSteps := 1000000) only [VL,VM,↓VG,reduceIte,reduceCtorEq,zA,zB,zC,zD,zE,zF,zG,zH,zI,zJ]
   ((repeat refine Ws ?_);refine Wt (by first|rfl|simp only [EV,zF,reduceIte]) ?_)
   ((repeat refine Ws ?_);refine Wr ?_)
   simp (maxSteps := 1000000) only [VL,VM,↓VG,reduceIte,reduceCtorEq,zA,zB,zC,zD,zE,zF,zG,zH,zI,zJ]
   (repeat refine Ws ?_)
   refine W_ret ?_
   try simp only [thenQ, blockQ]
   refine own_ret1 rfl ?_ (by rfl)
   simp only [get_cons, frz, vtup, Nat.reduceEqDiff, if_true, if_false, reduceIte]
   rw [e1, hst]; rfl
  rw [b4, if_pos rfl] at e2
  rw [e2, if_pos rfl] at hst
  simp (maxSteps := 1000000) only [VL,VM,↓VG,reduceIte,reduceCtorEq,zA,zB,zC,zD,zE,zF,zG,zH,zI,zJ]
  ((repeat refine Ws ?_);refine Wf (by first|rfl|simp only [EV,zF,reduceIte]) ?_)
  ((repeat refine Ws ?_);refine W_skip ?_)
  simp (maxSteps := 1000000) only [VL,VM,↓VG,reduceIte,reduceCtorEq,zA,zB,zC,zD,zE,zF,zG,zH,zI,zJ]
  ((repeat refine Ws ?_);refine Wr ?_)
  simp (maxSteps := 1000000) only [VL,VM,↓VG,reduceIte,reduceCtorEq,zA,zB,zC,zD,zE,zF,zG,zH,zI,zJ, k1]
  refine LoopK.mk ⟨i + 1, junk ++ [.obj [vi x.from_, vi x.keeps, vi x.portions]]⟩ (by simp only; omega) ⟨by simp only; omega, hst⟩ ⟨rfl, rfl, rfl, rfl, rfl, trivial⟩ rfl
 have k2 : ((i : Int) < (k.gifts.length : Int)) = False := eq_false (by omega)
 have hi3 : i = k.gifts.length := by omega
 subst hi3
 rw [List.drop_length, giftsErr] at hde
 simp (maxSteps := 1000000) only [VL,VM,↓VG,reduceIte,reduceCtorEq,zA,zB,zC,zD,zE,zF,zG,zH,zI,zJ, k2]
 ((repeat refine Ws ?_);refine Wf (by first|rfl|simp only [EV,zF,reduceIte]) ?_)
 ((repeat refine Ws ?_);refine W_exit ?_)
 simp (maxSteps := 1000000) only [VL,VM,↓VG,reduceIte,reduceCtorEq,zA,zB,zC,zD,zE,zF,zG,zH,zI,zJ]
 ((repeat refine Ws ?_);refine Wr ?_)
 simp (maxSteps := 1000000) only [VL,VM,↓VG,reduceIte,reduceCtorEq,zA,zB,zC,zD,zE,zF,zG,zH,zI,zJ]
 (repeat refine Ws ?_)
 refine W_ret ?_
 try simp only [thenQ, blockQ]
 refine own_ret1 rfl ?_ (by rfl)
 simp only [get_cons, frz, vtup, Nat.reduceEqDiff, if_true, if_false, reduceIte]
 rw [e1, hde]
theorem giAt_some {k : Kn} {g : Nat} (h : g < k.gifts.length) : k.gifts[g]? = some (giAt k g) := by
 unfold giAt
 rw [List.getD_eq_getElem?_getD, List.getElem?_eq_getElem h]; rfl
theorem mealAt_some {k : Kn} {m : Nat} (h : m < k.meals.length) : k.meals[m]? = some (mealAt k m) := by
 unfold mealAt
 rw [List.getD_eq_getElem?_getD, List.getElem?_eq_getElem h]; rfl
set_option maxHeartbeats 1000000 in
set_option maxRecDepth 8000 in
theorem fits_v (k : Kn) (V : KV k) {S : List (List Int)} (H : Srv k S) {sv : VV} {tid : Nat} {rid : Nat → Nat} (m g : Nat) (hm : m < k.meals.length) (hg : g < k.gifts.length) (M : Mem) (hB : SBox k S sv tid rid M.H) :
  VC Tryd.prog 40 [kitV k, sv, vi m, vi g] M (fun r M' => M' = M ∧ r = vb (fitsB k S m g)) := by
 have vm1 := V.m1
 have vg1 := V.g1
 have m0 : k.meals.length ≠ 0 := by omega
 have hsv := hB.sv m0
 subst hsv
 have htab : ∀ L, (M.H ++ L)[tid]? = _ := fun L => get_app (hB.tab m0)
 have hrow : ∀ x, x < k.meals.length → ∀ L, (M.H ++ L)[rid x]? = _ := fun x hx L => get_app (hB.row x hx)
 refine VC_own' T_ok (f := 40) (fn := Tryd.f40) (by kernel_rfl) rfl Tryd.ntmps40 (by rfl) (by rfl) ?_
 ((repeat refine Ws ?_);refine Wr ?_)
 simp (maxSteps := 1000000) only [VL,VM,↓VG,reduceIte,reduceCtorEq,zA,zB,zC,zD,zE,zF,zG,zH,zI,zJ]
 ((repeat refine Ws ?_);refine Wr ?_)
 simp (maxSteps := 1000000) only [VL,VM,↓VG,reduceIte,reduceCtorEq,zA,zB,zC,zD,zE,zF,zG,zH,zI,zJ]
 ((repeat refine Ws ?_);refine Wr ?_)
 simp (maxSteps := 1000000) only [VL,VM,↓VG,reduceIte,reduceCtorEq,zA,zB,zC,zD,zE,zF,zG,zH,zI,zJ]
 ((repeat refine Ws ?_);refine W_block ?_; (repeat refine Ws ?_)); refine W_loopS (fun i : Nat => [(0, kitV k), (1, .bf tid 0 k.meals.length 1), (2, vi m), (3, vi g), (4, .ptr M.H.length 0), (9, vi (goneT S g i)), (10, vi 0), (15, vi k.meals.length), (16, vi i)]) (fun _ => ⟨M.H ++ [.obj (kitC k)], M.lg⟩) (fun i => k.meals.length - i) (fun i => i ≤ k.meals.length) 0 (Nat.zero_le _) ⟨rfl, rfl, rfl, rfl, rfl, rfl, rfl, rfl, rfl, trivial⟩ rfl ?_
 intro i hi
 have k1 : -9223372036854775808 ≤ (i : Int) + 1 ∧ (i : Int) + 1 < 9223372036854775808 := by omega
 ((repeat refine Ws ?_);refine Wr ?_)
 rcases Nat.lt_or_ge i k.meals.length with hlt | hge
 ·have k2 : ((i : Int) < (k.meals.length : Int)) = True := eq_true (by omega)
  have c1 := rows_at (rid := rid) (G := k.gifts.length) hlt
  have c2 := cell_at (srv_rowl H hlt) hg
  have c3 : (i < k.meals.length) = True := eq_true hlt
  have c4 : (g < k.gifts.length) = True := eq_true hg
  have c5 := hrow i hlt
  have hb := H.gone g i
  have h1 := H.nn i g
  have h2 := H.hi i g
  have j3 : -9223372036854775808 ≤ goneT S g i + at2 S i g ∧ goneT S g i + at2 S i g < 9223372036854775808 := by omega
  have hnx : goneT S g (i + 1) = goneT S g i + at2 S i g := sumTo_succ _ _
  simp (maxSteps := 1000000) only [VL,VM,↓VG,reduceIte,reduceCtorEq,zA,zB,zC,zD,zE,zF,zG,zH,zI,zJ, k2]
  ((repeat refine Ws ?_);refine Wt (by first|rfl|simp only [EV,zF,reduceIte]) ?_)
  ((repeat refine Ws ?_);refine W_skip ?_)
  simp (maxSteps := 1000000) only [VL,VM,↓VG,reduceIte,reduceCtorEq,zA,zB,zC,zD,zE,zF,zG,zH,zI,zJ]
  ((repeat refine Ws ?_);refine W_block ?_)
  ((repeat refine Ws ?_);refine Wr ?_)
  simp (maxSteps := 1000000) only [VL,VM,↓VG,reduceIte,reduceCtorEq,zA,zB,zC,zD,zE,zF,zG,zH,zI,zJ]
  ((repeat refine Ws ?_);refine Wr ?_)
  simp (maxSteps := 1000000) only [VL,VM,↓VG,reduceIte,reduceCtorEq,zA,zB,zC,zD,zE,zF,zG,zH,zI,zJ, htab, c5, c1, c2, c3, c4, j3]
  ((repeat refine Ws ?_);refine Wr ?_)
  simp (maxSteps := 1000000) only [VL,VM,↓VG,reduceIte,reduceCtorEq,zA,zB,zC,zD,zE,zF,zG,zH,zI,zJ, k1]
  refine LoopK.mk (i + 1) (by omega) (by omega) ⟨rfl, rfl, rfl, rfl, rfl, ?_, rfl, rfl, rfl, trivial⟩ rfl
  rw [hnx]; rfl
 have k2 : ((i : Int) < (k.meals.length : Int)) = False := eq_false (by omega)
 have hi3 : i = k.meals.length := by omega
 subst hi3
 simp (maxSteps := 1000000) only [VL,VM,↓VG,reduceIte,reduceCtorEq,zA,zB,zC,zD,zE,zF,zG,zH,zI,zJ, k2]
 ((repeat refine Ws ?_);refine Wf (by first|rfl|simp only [EV,zF,reduceIte]) ?_)
 ((repeat refine Ws ?_);refine W_exit ?_)
 simp (maxSteps := 1000000) only [VL,VM,↓VG,reduceIte,reduceCtorEq,zA,zB,zC,zD,zE,zF,zG,zH,zI,zJ]
 ((repeat refine Ws ?_);refine Wr ?_)
 simp (maxSteps := 1000000) only [VL,VM,↓VG,reduceIte,reduceCtorEq,zA,zB,zC,zD,zE,zF,zG,zH,zI,zJ]
 ((repeat refine Ws ?_);refine W_block ?_; (repeat refine Ws ?_)); refine W_loopS (fun i : Nat => [(0, kitV k), (1, .bf tid 0 k.meals.length 1), (2, vi m), (3, vi g), (4, .ptr M.H.length 0), (9, vi (goneT S g k.meals.length)), (10, vi (eatenT S m i)), (31, vi k.gifts.length), (32, vi i)]) (fun _ => ⟨M.H ++ [.obj (kitC k)], M.lg⟩) (fun i => k.gifts.length - i) (fun i => i ≤ k.gifts.length) 0 (Nat.zero_le _) ⟨rfl, rfl, rfl, rfl, rfl, rfl, rfl, rfl, rfl, trivial⟩ rfl ?_
 clear hge k2 k1 hi
 intro i hi
 have k1 : -9223372036854775808 ≤ (i : Int) + 1 ∧ (i : Int) + 1 < 9223372036854775808 := by omega
 have c1 := rows_at (rid := rid) (G := k.gifts.length) hm
 have c3 : (m < k.meals.length) = True := eq_true hm
 have c5 := hrow m hm
 ((repeat refine Ws ?_);refine Wr ?_)
 rcases Nat.lt_or_ge i k.gifts.length with hlt | hge
 ·have k2 : ((i : Int) < (k.gifts.length : Int)) = True := eq_true (by omega)
  have c2 := cell_at (srv_rowl H hm) hlt
  have c4 : (i < k.gifts.length) = True := eq_true hlt
  have hb := H.eaten m i
  have h1 := H.nn m i
  have h2 := H.hi m i
  have j3 : -9223372036854775808 ≤ eatenT S m i + at2 S m i ∧ eatenT S m i + at2 S m i < 9223372036854775808 := by omega
  have hnx : eatenT S m (i + 1) = eatenT S m i + at2 S m i := sumTo_succ _ _
  simp (maxSteps := 1000000) only [VL,VM,↓VG,reduceIte,reduceCtorEq,zA,zB,zC,zD,zE,zF,zG,zH,zI,zJ, k2]
  ((repeat refine Ws ?_);refine Wt (by first|rfl|simp only [EV,zF,reduceIte]) ?_)
  ((repeat refine Ws ?_);refine W_skip ?_)
  simp (maxSteps := 1000000) only [VL,VM,↓VG,reduceIte,reduceCtorEq,zA,zB,zC,zD,zE,zF,zG,zH,zI,zJ]
  ((repeat refine Ws ?_);refine W_block ?_)
  ((repeat refine Ws ?_);refine Wr ?_)
  simp (maxSteps := 1000000) only [VL,VM,↓VG,reduceIte,reduceCtorEq,zA,zB,zC,zD,zE,zF,zG,zH,zI,zJ]
  ((repeat refine Ws ?_);refine Wr ?_)
  simp (maxSteps := 1000000) only [VL,VM,↓VG,reduceIte,reduceCtorEq,zA,zB,zC,zD,zE,zF,zG,zH,zI,zJ, htab, c5, c1, c2, c3, c4, j3]
  ((repeat refine Ws ?_);refine Wr ?_)
  simp (maxSteps := 1000000) only [VL,VM,↓VG,reduceIte,reduceCtorEq,zA,zB,zC,zD,zE,zF,zG,zH,zI,zJ, k1]
  refine LoopK.mk (i + 1) (by omega) (by omega) ⟨rfl, rfl, rfl, rfl, rfl, rfl, ?_, rfl, rfl, trivial⟩ rfl
  rw [hnx]; rfl
 have k2 : ((i : Int) < (k.gifts.length : Int)) = False := eq_false (by omega)
 have hi3 : i = k.gifts.length := by omega
 subst hi3
 have hgx := map_at (f := giP) (giAt_some hg)
 have hmx := map_at (f := intP) (mealAt_some hm)
 simp (maxSteps := 1000000) only [VL,VM,↓VG,reduceIte,reduceCtorEq,zA,zB,zC,zD,zE,zF,zG,zH,zI,zJ, k2]
 ((repeat refine Ws ?_);refine Wf (by first|rfl|simp only [EV,zF,reduceIte]) ?_)
 ((repeat refine Ws ?_);refine W_exit ?_)
 simp (maxSteps := 1000000) only [VL,VM,↓VG,reduceIte,reduceCtorEq,zA,zB,zC,zD,zE,zF,zG,zH,zI,zJ]
 ((repeat refine Ws ?_);refine Wr ?_)
 by_cases b1 : goneT S g k.meals.length ≤ (giAt k g).portions
 ·have q1 : (goneT S g k.meals.length ≤ (giAt k g).portions) = True := eq_true b1
  by_cases b2 : eatenT S m k.gifts.length ≤ mealAt k m
  ·have q2 : (eatenT S m k.gifts.length ≤ mealAt k m) = True := eq_true b2
   simp (maxSteps := 1000000) only [VL,VM,↓VG,reduceIte,reduceCtorEq,zA,zB,zC,zD,zE,zF,zG,zH,zI,zJ, hgx, hmx, q1, q2]
   (repeat refine Ws ?_)
   refine W_ret ?_
   try simp only [thenQ, blockQ]
   refine own_ret1 rfl ?_ (by rfl)
   simp only [get_cons, frz, vtup, Nat.reduceEqDiff, if_true, if_false, reduceIte]
   simp [fitsB, b1, b2]
  have q2 : (eatenT S m k.gifts.length ≤ mealAt k m) = False := eq_false b2
  simp (maxSteps := 1000000) only [VL,VM,↓VG,reduceIte,reduceCtorEq,zA,zB,zC,zD,zE,zF,zG,zH,zI,zJ, hgx, hmx, q1, q2]
  (repeat refine Ws ?_)
  refine W_ret ?_
  try simp only [thenQ, blockQ]
  refine own_ret1 rfl ?_ (by rfl)
  simp only [get_cons, frz, vtup, Nat.reduceEqDiff, if_true, if_false, reduceIte]
  simp [fitsB, b1, b2]
 have q1 : (goneT S g k.meals.length ≤ (giAt k g).portions) = False := eq_false b1
 simp (maxSteps := 1000000) only [VL,VM,↓VG,reduceIte,reduceCtorEq,zA,zB,zC,zD,zE,zF,zG,zH,zI,zJ, hgx, hmx, q1]
 (repeat refine Ws ?_)
 refine W_ret ?_
 try simp only [thenQ, blockQ]
 refine own_ret1 rfl ?_ (by rfl)
 simp only [get_cons, frz, vtup, Nat.reduceEqDiff, if_true, if_false, reduceIte]
 simp [fitsB, b1]
end Go.Proofs.YtekhddlngbppkaaDoor.Vm

/- Feeding, plain: the serving that is searched for. -/
namespace Go.Proofs.YtekhddlngbppkaaDoor
def srch (p : Int → Bool) : Nat → Int → Int → Int
 | 0, lo, _ => lo
 | f + 1, lo, hi => if lo < hi then (if p ((lo + hi + 1) / 2) then srch p f ((lo + hi + 1) / 2) hi else srch p f lo ((lo + hi + 1) / 2 - 1)) else lo
theorem srch_fuel (p : Int → Bool) : ∀ (f f' : Nat) (lo hi : Int), (hi - lo).toNat ≤ f → (hi - lo).toNat ≤ f' → srch p f lo hi = srch p f' lo hi
 | 0, 0, _, _, _, _ => rfl
 | 0, f' + 1, lo, hi, h, _ => by
  rw [srch, srch, if_neg (by omega)]
 | f + 1, 0, lo, hi, _, h => by
  rw [srch, srch, if_neg (by omega)]
 | f + 1, f' + 1, lo, hi, h, h' => by
  rw [srch, srch]
  split
  ·split
   ·exact srch_fuel p f f' _ _ (by omega) (by omega)
   ·exact srch_fuel p f f' _ _ (by omega) (by omega)
  ·rfl
def srchV (p : Int → Bool) (lo hi : Int) : Int := srch p (hi - lo).toNat lo hi
theorem srchV_stop {p : Int → Bool} {lo hi : Int} (h : ¬ lo < hi) : srchV p lo hi = lo := by
 unfold srchV
 rw [show (hi - lo).toNat = 0 by omega, srch]
theorem srchV_yes {p : Int → Bool} {lo hi : Int} (h : lo < hi) (hp : p ((lo + hi + 1) / 2) = true) : srchV p lo hi = srchV p ((lo + hi + 1) / 2) hi := by
 unfold srchV
 obtain ⟨f, hf⟩ : ∃ f, (hi - lo).toNat = f + 1 := ⟨(hi - lo).toNat - 1, by omega⟩
 rw [hf, srch, if_pos h, if_pos hp]
 exact srch_fuel p _ _ _ _ (by omega) (Nat.le_refl _)
theorem srchV_no {p : Int → Bool} {lo hi : Int} (h : lo < hi) (hp : p ((lo + hi + 1) / 2) = false) : srchV p lo hi = srchV p lo ((lo + hi + 1) / 2 - 1) := by
 unfold srchV
 obtain ⟨f, hf⟩ : ∃ f, (hi - lo).toNat = f + 1 := ⟨(hi - lo).toNat - 1, by omega⟩
 rw [hf, srch, if_pos h, hp, if_neg (by decide)]
 exact srch_fuel p _ _ _ _ (by omega) (Nat.le_refl _)
theorem srchV_bd {p : Int → Bool} : ∀ (n : Nat) (lo hi : Int), (hi - lo).toNat = n → lo ≤ srchV p lo hi ∧ srchV p lo hi ≤ max lo hi := by
 intro n
 induction n using Nat.strongRecOn with
 | ind n ih =>
  intro lo hi hn
  by_cases h : lo < hi
  ·cases hp : p ((lo + hi + 1) / 2) with
   | true =>
    rw [srchV_yes h hp]
    have := ih (hi - (lo + hi + 1) / 2).toNat (by omega) _ _ rfl
    omega
   | false =>
    rw [srchV_no h hp]
    have := ih ((lo + hi + 1) / 2 - 1 - lo).toNat (by omega) _ _ rfl
    omega
  ·rw [srchV_stop h]
   omega
noncomputable def pairP (k : Kn) (S : List (List Int)) (m g : Nat) (rest t : Int) : Bool := fitsB k (upd2 S m g t) m g && decide (fedV k (upd2 S m g t) m ((g : Int) - 1) = rest - t)
noncomputable def pairV (k : Kn) (S : List (List Int)) (m g : Nat) (rest : Int) : Int := srchV (pairP k S m g rest) 0 (min rest (giAt k g).portions)
noncomputable def feedStep (k : Kn) (m : Nat) (st : List (List Int) × Int) (g : Nat) : List (List Int) × Int :=
 if inR (m : Int) (giAt k g).from_ (giAt k g).keeps then (upd2 st.1 m g (pairV k st.1 m g st.2), st.2 - pairV k st.1 m g st.2) else st
noncomputable def feedRow (k : Kn) (st : List (List Int) × Int) (m : Nat) : List (List Int) × Int := (List.range k.gifts.length).foldl (feedStep k m) st
def srv0 (k : Kn) : List (List Int) := List.replicate k.meals.length (List.replicate k.gifts.length 0)
noncomputable def feedTo (k : Kn) (n : Nat) : List (List Int) × Int := (List.range n).foldl (feedRow k) (srv0 k, fedV k (srv0 k) (-1) 0)
noncomputable def feedIn (k : Kn) (m n : Nat) : List (List Int) × Int := (List.range n).foldl (feedStep k m) (feedTo k m)
theorem feedIn_succ (k : Kn) (m n : Nat) : feedIn k m (n + 1) = feedStep k m (feedIn k m n) n := by
 unfold feedIn
 rw [List.range_succ, List.foldl_append]; rfl
theorem feedTo_succ (k : Kn) (m : Nat) : feedTo k (m + 1) = feedIn k m k.gifts.length := by
 unfold feedTo
 rw [List.range_succ, List.foldl_append]; rfl
def givenAll (k : Kn) : Int := (k.gifts.map Gi.portions).sum
theorem srv0_at (k : Kn) (m g : Nat) : at2 (srv0 k) m g = 0 := by
 unfold at2 srv0
 rw [List.getD_eq_getElem?_getD (l := List.replicate _ _), List.getElem?_replicate]
 split
 ·rw [Option.getD_some, List.getD_eq_getElem?_getD, List.getElem?_replicate]
  split <;> rfl
 ·rfl
theorem srv0_ok (k : Kn) : Srv k (srv0 k) := ⟨by simp [srv0], fun r hr => by
 simp only [srv0, List.mem_replicate] at hr
 rw [hr.2]; simp, fun m g => by rw [srv0_at]; omega, fun m g => by rw [srv0_at]; omega⟩
theorem giAt_V {k : Kn} (V : KV k) {g : Nat} (hg : g < k.gifts.length) : GiV k.meals.length (giAt k g) := by
 unfold giAt
 rw [List.getD_eq_getElem?_getD, List.getElem?_eq_getElem hg]
 exact V.gifts _ (List.getElem_mem hg)
theorem mealAt_V {k : Kn} (V : KV k) {m : Nat} (hm : m < k.meals.length) : 0 ≤ mealAt k m ∧ mealAt k m ≤ 10000 := by
 unfold mealAt
 rw [List.getD_eq_getElem?_getD, List.getElem?_eq_getElem hm]
 exact V.meals _ (List.getElem_mem hm)
theorem srv0_fits {k : Kn} (V : KV k) : Fits k (srv0 k) := by
 have z : ∀ n, sumTo n (fun _ => (0 : Int)) = 0 := sumTo_const0
 refine ⟨fun g hg => ?_, fun m hm => ?_⟩
 ·unfold goneT
  simp only [srv0_at, z]
  exact (giAt_V V hg).p0
 ·unfold eatenT
  simp only [srv0_at, z]
  exact (mealAt_V V hm).1
theorem at2_updS {k : Kn} {S : List (List Int)} (H : Srv k S) {m g : Nat} (hm : m < k.meals.length) (hg : g < k.gifts.length) (x : Int) (a b : Nat) : at2 (upd2 S m g x) a b = if m = a ∧ g = b then x else at2 S a b := by
 have hrl : (S.getD m []).length = k.gifts.length := by
  rw [List.getD_eq_getElem?_getD, List.getElem?_eq_getElem (by rw [H.len]; exact hm)]
  exact H.row _ (List.getElem_mem _)
 unfold at2 upd2
 rw [List.getD_eq_getElem?_getD (l := S.set _ _), List.getElem?_set]
 by_cases e : m = a
 ·subst e
  rw [if_pos rfl, if_pos (by rw [H.len]; exact hm), Option.getD_some, List.getD_eq_getElem?_getD, List.getElem?_set]
  by_cases e2 : g = b
  ·subst e2
   rw [if_pos rfl, if_pos (by omega), if_pos ⟨rfl, rfl⟩]; rfl
  ·rw [if_neg e2, if_neg (by simp [e2]), ← List.getD_eq_getElem?_getD]
 ·rw [if_neg e, if_neg (by simp [e]), ← List.getD_eq_getElem?_getD]
theorem Srv.upd {k : Kn} {S : List (List Int)} (H : Srv k S) {m g : Nat} (hm : m < k.meals.length) (hg : g < k.gifts.length) {x : Int} (h0 : 0 ≤ x) (h1 : x ≤ 10000) : Srv k (upd2 S m g x) := by
 refine ⟨by rw [upd2, List.length_set]; exact H.len, fun r hr => ?_, fun a b => ?_, fun a b => ?_⟩
 ·rcases List.mem_or_eq_of_mem_set hr with hr | rfl
  ·exact H.row r hr
  ·rw [List.length_set, List.getD_eq_getElem?_getD, List.getElem?_eq_getElem (by rw [H.len]; exact hm)]
   exact H.row _ (List.getElem_mem _)
 ·rw [at2_updS H hm hg]
  have := H.nn a b
  split <;> omega
 ·rw [at2_updS H hm hg]
  have := H.hi a b
  split <;> omega
theorem upd2_upd2 {S : List (List Int)} {m g : Nat} (x y : Int) (hm : m < S.length) : upd2 (upd2 S m g x) m g y = upd2 S m g y := by
 unfold upd2
 rw [List.set_set, List.getD_eq_getElem?_getD (l := S.set _ _), List.getElem?_set, if_pos rfl, if_pos hm, Option.getD_some, List.set_set]
theorem Fits.upd {k : Kn} {S : List (List Int)} (H : Srv k S) (F : Fits k S) {m g : Nat} (hm : m < k.meals.length) (hg : g < k.gifts.length) {x : Int} (h : fitsB k (upd2 S m g x) m g = true) : Fits k (upd2 S m g x) := by
 unfold fitsB at h
 simp only [Bool.and_eq_true, decide_eq_true_eq] at h
 refine ⟨fun b hb => ?_, fun a ha => ?_⟩
 ·by_cases e : g = b
  ·subst e; exact h.1
  ·have : goneT (upd2 S m g x) b k.meals.length = goneT S b k.meals.length := sumTo_congr fun i _ => by rw [at2_updS H hm hg, if_neg (by simp [e])]
   rw [this]; exact F.1 b hb
 ·by_cases e : m = a
  ·subst e; exact h.2
  ·have : eatenT (upd2 S m g x) a k.gifts.length = eatenT S a k.gifts.length := sumTo_congr fun i _ => by rw [at2_updS H hm hg, if_neg (by simp [e])]
   rw [this]; exact F.2 a ha
theorem Fits.zero {k : Kn} {S : List (List Int)} (H : Srv k S) (F : Fits k S) {m g : Nat} (hm : m < k.meals.length) (hg : g < k.gifts.length) : Fits k (upd2 S m g 0) := by
 have hle : ∀ a b, at2 (upd2 S m g 0) a b ≤ at2 S a b := fun a b => by
  rw [at2_updS H hm hg]
  have := H.nn a b
  split <;> omega
 refine ⟨fun b hb => Int.le_trans (sumTo_le fun i _ => hle i b) (F.1 b hb), fun a ha => Int.le_trans (sumTo_le fun i _ => hle a i) (F.2 a ha)⟩
theorem mfv_bd {N : Nat} {C : List (List Int)} {B : Int} (hN : 2 ≤ N) (hB : 0 ≤ B) (h : ∀ i j, 0 ≤ at2 C i j ∧ at2 C i j ≤ B) : 0 ≤ mfv N C ∧ mfv N C ≤ (N : Int) * ((N : Int) * B) := by
 have key : ∀ S : Nat → Bool, 0 ≤ cutOf N C S ∧ cutOf N C S ≤ (N : Int) * ((N : Int) * B) := fun S => by
  have := sumTo_bd (n := N) (f := fun i => sumTo N fun j => if S i && !S j then at2 C i j else 0) (a := 0) (b := (N : Int) * B) fun i _ => by
   have := sumTo_bd (n := N) (f := fun j => if S i && !S j then at2 C i j else 0) (a := 0) (b := B) fun j _ => by
    have := h i j
    split <;> omega
   simpa using this
  simpa [cutOf] using this
 have h0 : 0 ≤ (N : Int) * ((N : Int) * B) := Int.mul_nonneg (by omega) (Int.mul_nonneg (by omega) hB)
 unfold mfv
 split
 ·rename_i he
  obtain ⟨_, S, _, _, hS⟩ := Classical.choose_spec he
  have := key S
  omega
 ·omega
theorem fedV_bd {k : Kn} (V : KV k) {S : List (List Int)} (H : Srv k S) (F : Fits k S) (meal gift : Int) : 0 ≤ fedV k S meal gift ∧ fedV k S meal gift ≤ 1000000000000000 := by
 have hm := V.m1
 have hg := V.g1
 have hrm : ∀ m g, 0 ≤ roomOf meal gift m g ∧ roomOf meal gift m g ≤ 1073741824 := fun m g => by unfold roomOf; split <;> omega
 have hw := tabWs_ok V H F hrm
 have hl := tabWs_len (S := S) (room := roomOf meal gift) V
 obtain ⟨_, hb⟩ := tabW_ok _ (tabWs k S (roomOf meal gift)) rfl hw
 have := mfv_bd (N := 2 + k.gifts.length + k.meals.length) (C := tabOfW (2 + k.gifts.length + k.meals.length) (tabWs k S (roomOf meal gift))) (B := 1073741824 * 1000) (by omega) (by omega) (fun i j => by
  have := hb i j
  omega)
 unfold fedV
 refine ⟨this.1, Int.le_trans this.2 ?_⟩
 have hN : ((2 + k.gifts.length + k.meals.length : Nat) : Int) ≤ 12 := by omega
 have h1 : ((2 + k.gifts.length + k.meals.length : Nat) : Int) * (1073741824 * 1000) ≤ 12 * (1073741824 * 1000) := Int.mul_le_mul_of_nonneg_right hN (by omega)
 have h2 : ((2 + k.gifts.length + k.meals.length : Nat) : Int) * (((2 + k.gifts.length + k.meals.length : Nat) : Int) * (1073741824 * 1000)) ≤ 12 * (12 * (1073741824 * 1000)) := Int.mul_le_mul hN h1 (Int.mul_nonneg (by omega) (by omega)) (by omega)
 omega
structure FeedOk (k : Kn) (st : List (List Int) × Int) : Prop where
 srv : Srv k st.1
 fits : Fits k st.1
 r0 : 0 ≤ st.2
 r1 : st.2 ≤ 1000000000000000
theorem pairV_bd {k : Kn} (V : KV k) (S : List (List Int)) {m g : Nat} (hg : g < k.gifts.length) {rest : Int} (h0 : 0 ≤ rest) : 0 ≤ pairV k S m g rest ∧ pairV k S m g rest ≤ rest ∧ pairV k S m g rest ≤ (giAt k g).portions := by
 have h1 := srchV_bd (p := pairP k S m g rest) _ 0 (min rest (giAt k g).portions) rfl
 have h2 := (giAt_V V hg).p0
 unfold pairV
 omega
theorem srchV_fits {k : Kn} {S : List (List Int)} (H : Srv k S) (F : Fits k S) {m g : Nat} (hm : m < k.meals.length) (hg : g < k.gifts.length) (rest : Int) : ∀ (n : Nat) (lo hi : Int), (hi - lo).toNat = n → Fits k (upd2 S m g lo) → Fits k (upd2 S m g (srchV (pairP k S m g rest) lo hi)) := by
 intro n
 induction n using Nat.strongRecOn with
 | ind n ih =>
  intro lo hi hn hf
  by_cases h : lo < hi
  ·cases hp : pairP k S m g rest ((lo + hi + 1) / 2) with
   | true =>
    rw [srchV_yes h hp]
    refine ih (hi - (lo + hi + 1) / 2).toNat (by omega) _ _ rfl (F.upd H hm hg ?_)
    unfold pairP at hp
    simp only [Bool.and_eq_true] at hp
    exact hp.1
   | false =>
    rw [srchV_no h hp]
    exact ih ((lo + hi + 1) / 2 - 1 - lo).toNat (by omega) _ _ rfl hf
  ·rw [srchV_stop h]; exact hf
theorem FeedOk.step {k : Kn} (V : KV k) {m g : Nat} (hm : m < k.meals.length) (hg : g < k.gifts.length) {st : List (List Int) × Int} (h : FeedOk k st) : FeedOk k (feedStep k m st g) := by
 obtain ⟨S, rest⟩ := st
 obtain ⟨srv, fits, r0, r1⟩ := h
 simp only at srv fits r0 r1
 unfold feedStep
 split
 ·have hb := pairV_bd V S (m := m) hg r0
  have hp := (giAt_V V hg).p1
  refine ⟨srv.upd hm hg hb.1 (by show pairV k S m g rest ≤ 10000; omega), srchV_fits srv fits hm hg rest _ _ _ rfl (fits.zero srv hm hg), by simp only; omega, by simp only; omega⟩
 ·exact ⟨srv, fits, r0, r1⟩
theorem FeedOk.inn {k : Kn} (V : KV k) {m : Nat} (hm : m < k.meals.length) : ∀ n, n ≤ k.gifts.length → FeedOk k (feedTo k m) → FeedOk k (feedIn k m n)
 | 0, _, h => h
 | n + 1, hn, h => by
  rw [feedIn_succ]
  exact (FeedOk.inn V hm n (by omega) h).step V hm (by omega)
theorem FeedOk.to {k : Kn} (V : KV k) : ∀ n, n ≤ k.meals.length → FeedOk k (feedTo k n)
 | 0, _ => by
  have hb := fedV_bd V (srv0_ok k) (srv0_fits V) (-1) 0
  exact ⟨srv0_ok k, srv0_fits V, hb.1, hb.2⟩
 | n + 1, hn => by
  rw [feedTo_succ]
  exact FeedOk.inn V (by omega) _ (Nat.le_refl _) (FeedOk.to V n (by omega))
end Go.Proofs.YtekhddlngbppkaaDoor
