/- A part of the proofs about the chapter of the doors; it states no condition of its own. -/
import Derived.Test.YtekhddlngbppkaaDoorB14
import Derived.Test.YtekhddlngbppkaaDoorB15
set_option linter.unusedVariables false
set_option linter.unusedSimpArgs false
open Int renaming reduceLE → zA, reduceLT → zB, reduceToNat → zC, reduceNeg → zD
open Nat renaming reduceLT → zE, reduceEqDiff → zF, reduceAdd → zG, reduceSub → zH, reduceMul → zI, reduceLeDiff → zJ
/- The program's check of houses, on values. (Vm) -/
namespace Go.Proofs.YtekhddlngbppkaaDoor.Vm
open Go Go.Proofs
theorem fn_call1 {f : Nat} {fn : Func} {args : List VV} {M : Mem} {Q : VV → Mem → Prop} (hf : T.fn f = some fn) (hk : T.keeps f = false) (h : VC Tryd.prog f (args.map strip1) M Q) : VCall Tryd.prog (.fn (.func f) [] []) args M Q := fn_call hf hk h
theorem in_v (n lo hi : Int) (M : Mem) : VC Tryd.prog 21 [vi n, vi lo, vi hi] M (fun r M' => M' = M ∧ r = vb (inR n lo hi)) := by
 refine VC_own' T_ok (f := 21) (fn := Tryd.f21) (by kernel_rfl) rfl Tryd.ntmps21 (by rfl) (by rfl) ?_
 ((repeat refine Ws ?_);refine Wr ?_)
 simp (maxSteps := 1000000) only [VL,VM,↓VG,reduceIte,reduceCtorEq,zA,zB,zC,zD,zE,zF,zG,zH,zI,zJ]
 ((repeat refine Ws ?_);refine Wr ?_)
 by_cases h1 : lo ≤ n
 ·by_cases h2 : n ≤ hi
  ·simp (maxSteps := 1000000) only [VL,VM,↓VG,reduceIte,reduceCtorEq,zA,zB,zC,zD,zE,zF,zG,zH,zI,zJ, h1, h2]
   (repeat refine Ws ?_)
   refine W_ret ?_
   try simp only [thenQ, blockQ]
   refine own_ret10 rfl ?_ (by rfl)
   simp only [get_cons, frz, vtup, Nat.reduceEqDiff, if_true, if_false, reduceIte]
   rw [inR_true.2 ⟨h1, h2⟩]
  ·simp (maxSteps := 1000000) only [VL,VM,↓VG,reduceIte,reduceCtorEq,zA,zB,zC,zD,zE,zF,zG,zH,zI,zJ, h1, h2]
   (repeat refine Ws ?_)
   refine W_ret ?_
   try simp only [thenQ, blockQ]
   refine own_ret10 rfl ?_ (by rfl)
   simp only [get_cons, frz, vtup, Nat.reduceEqDiff, if_true, if_false, reduceIte]
   simp [inR, h1, h2]
 ·simp (maxSteps := 1000000) only [VL,VM,↓VG,reduceIte,reduceCtorEq,zA,zB,zC,zD,zE,zF,zG,zH,zI,zJ, h1]
  (repeat refine Ws ?_)
  refine W_ret ?_
  try simp only [thenQ, blockQ]
  refine own_ret10 rfl ?_ (by rfl)
  simp only [get_cons, frz, vtup, Nat.reduceEqDiff, if_true, if_false, reduceIte]
  simp [inR, h1]
theorem any_take {α : Type} (p : α → Bool) (l : List α) (i : Nat) (x : α) (h : l[i]? = some x) : (l.take (i + 1)).any p = ((l.take i).any p || p x) := by
 rw [List.take_add_one, h]
 simp
theorem any_hit {α : Type} (p : α → Bool) (l : List α) (i : Nat) (x : α) (h : l[i]? = some x) (hp : p x = true) : l.any p = true := List.any_eq_true.2 ⟨x, List.mem_of_getElem? h, hp⟩
theorem indexints_v (fv : VV) (xs : List Int) (p : Int → Bool) (M : Mem) (hl : xs.length ≤ 1000000) (hf : ∀ x ∈ xs, VCall Tryd.prog fv [vi x] M (fun r M' => M' = M ∧ r = vb (p x))) :
  VC Tryd.prog 52 [intsV xs, fv] M (fun r M' => M' = M ∧ ∃ k : Int, r = vi k ∧ decide (0 ≤ k) = xs.any p) := by
 refine VC_own' T_ok (f := 52) (fn := Tryd.f52) (by kernel_rfl) rfl Tryd.ntmps52 (by rfl) (by rfl) ?_
 ((repeat refine Ws ?_);refine Wr ?_)
 simp (maxSteps := 1000000) only [VL,VM,↓VG,reduceIte,reduceCtorEq,zA,zB,zC,zD,zE,zF,zG,zH,zI,zJ]
 ((repeat refine Ws ?_);refine Wr ?_)
 simp (maxSteps := 1000000) only [VL,VM,↓VG,reduceIte,reduceCtorEq,zA,zB,zC,zD,zE,zF,zG,zH,zI,zJ]
 ((repeat refine Ws ?_);refine W_block ?_; (repeat refine Ws ?_)); refine W_loopS (fun i : Nat => [(0, intsV xs), (1, fv), (7, vi xs.length), (8, vi i)]) (fun _ => M) (fun i => xs.length - i) (fun i => i ≤ xs.length ∧ (xs.take i).any p = false) 0 ⟨by omega, by simp⟩ ⟨rfl, rfl, rfl, rfl, trivial⟩ rfl ?_
 rintro i ⟨hi, hno⟩
 have k1 : -9223372036854775808 ≤ (i : Int) + 1 ∧ (i : Int) + 1 < 9223372036854775808 := by omega
 ((repeat refine Ws ?_);refine Wr ?_)
 rcases Nat.lt_or_ge i xs.length with hlt | hge
 ·have k2 : ((i : Int) < (xs.length : Int)) = True := eq_true (by omega)
  have hx : xs[i]? = some xs[i] := List.getElem?_eq_getElem hlt
  have hx' := map_at (f := intP) hx
  simp (maxSteps := 1000000) only [VL,VM,↓VG,reduceIte,reduceCtorEq,zA,zB,zC,zD,zE,zF,zG,zH,zI,zJ, k1, k2, hx']
  ((repeat refine Ws ?_);refine Wt (by first|rfl|simp only [EV,zF,reduceIte]) ?_)
  ((repeat refine Ws ?_);refine W_skip ?_)
  simp (maxSteps := 1000000) only [VL,VM,↓VG,reduceIte,reduceCtorEq,zA,zB,zC,zD,zE,zF,zG,zH,zI,zJ]
  ((repeat refine Ws ?_);refine W_block ?_)
  ((repeat refine Ws ?_);refine Wr ?_)
  simp (maxSteps := 1000000) only [VL,VM,↓VG,reduceIte,reduceCtorEq,zA,zB,zC,zD,zE,zF,zG,zH,zI,zJ]
  ((repeat refine Ws ?_);refine Wr ?_)
  simp (maxSteps := 1000000) only [VL,VM,↓VG,reduceIte,reduceCtorEq,zA,zB,zC,zD,zE,zF,zG,zH,zI,zJ, hx']
  refine (hf _ (List.getElem_mem hlt)).mono ?_
  rintro _ _ ⟨rfl, rfl⟩
  simp (maxSteps := 1000000) only [VL,VM,↓VG,reduceIte,reduceCtorEq,zA,zB,zC,zD,zE,zF,zG,zH,zI,zJ]
  cases hp : p xs[i]
  ·((repeat refine Ws ?_);refine Wf (by first|rfl|simp only [EV,zF,reduceIte]) ?_)
   ((repeat refine Ws ?_);refine W_skip ?_)
   simp (maxSteps := 1000000) only [VL,VM,↓VG,reduceIte,reduceCtorEq,zA,zB,zC,zD,zE,zF,zG,zH,zI,zJ]
   ((repeat refine Ws ?_);refine Wr ?_)
   simp (maxSteps := 1000000) only [VL,VM,↓VG,reduceIte,reduceCtorEq,zA,zB,zC,zD,zE,zF,zG,zH,zI,zJ, k1]
   refine LoopK.mk (i + 1) (by omega) ⟨by omega, ?_⟩ ⟨rfl, rfl, rfl, rfl, trivial⟩ rfl
   rw [any_take p xs i _ hx, hno, hp]; rfl
  ·((repeat refine Ws ?_);refine Wt (by first|rfl|simp only [EV,zF,reduceIte]) ?_)
   ((repeat refine Ws ?_);refine Wr ?_)
   simp (maxSteps := 1000000) only [VL,VM,↓VG,reduceIte,reduceCtorEq,zA,zB,zC,zD,zE,zF,zG,zH,zI,zJ]
   (repeat refine Ws ?_)
   refine W_ret ?_
   try simp only [thenQ, blockQ]
   refine own_ret0 rfl rfl rfl ⟨rfl, (i : Int), rfl, ?_⟩
   rw [any_hit p xs i _ hx hp]; simp
 ·have k2 : ((i : Int) < (xs.length : Int)) = False := eq_false (by omega)
  simp (maxSteps := 1000000) only [VL,VM,↓VG,reduceIte,reduceCtorEq,zA,zB,zC,zD,zE,zF,zG,zH,zI,zJ, k1, k2]
  ((repeat refine Ws ?_);refine Wf (by first|rfl|simp only [EV,zF,reduceIte]) ?_)
  ((repeat refine Ws ?_);refine W_exit ?_)
  simp (maxSteps := 1000000) only [VL,VM,↓VG,reduceIte,reduceCtorEq,zA,zB,zC,zD,zE,zF,zG,zH,zI,zJ]
  ((repeat refine Ws ?_);refine Wr ?_)
  simp (maxSteps := 1000000) only [VL,VM,↓VG,reduceIte,reduceCtorEq,zA,zB,zC,zD,zE,zF,zG,zH,zI,zJ]
  (repeat refine Ws ?_)
  refine W_ret ?_
  try simp only [thenQ, blockQ]
  refine own_ret0 rfl rfl rfl ⟨rfl, -1, rfl, ?_⟩
  rw [List.take_of_length_le hge] at hno
  rw [hno]; rfl
theorem containsints_v (fv : VV) (xs : List Int) (p : Int → Bool) (M : Mem) (hl : xs.length ≤ 1000000) (hs : strip1 fv = fv) (hf : ∀ x ∈ xs, VCall Tryd.prog fv [vi x] M (fun r M' => M' = M ∧ r = vb (p x))) :
  VC Tryd.prog 42 [intsV xs, fv] M (fun r M' => M' = M ∧ r = vb (xs.any p)) := by
 refine VC_own' T_ok (f := 42) (fn := Tryd.f42) (by kernel_rfl) rfl Tryd.ntmps42 (by rfl) (by rfl) ?_
 ((repeat refine Ws ?_);refine Wr ?_)
 simp (maxSteps := 1000000) only [VL,VM,↓VG,reduceIte,reduceCtorEq,zA,zB,zC,zD,zE,zF,zG,zH,zI,zJ]
 ((repeat refine Ws ?_);refine Wr ?_)
 simp (maxSteps := 1000000) only [VL,VM,↓VG,reduceIte,reduceCtorEq,zA,zB,zC,zD,zE,zF,zG,zH,zI,zJ]
 refine fn_call1 (f := 52) (fn := Tryd.f52) (by kernel_rfl) (by rfl) ?_
 rw [show List.map strip1 [intsV xs, fv] = [intsV xs, fv] by rw [List.map_cons, List.map_cons, hs]; rfl]
 refine (indexints_v fv xs p M hl hf).mono ?_
 rintro _ _ ⟨rfl, k, rfl, hk⟩
 simp (maxSteps := 1000000) only [VL,VM,↓VG,reduceIte,reduceCtorEq,zA,zB,zC,zD,zE,zF,zG,zH,zI,zJ]
 (repeat refine Ws ?_)
 refine W_ret ?_
 try simp only [thenQ, blockQ]
 refine own_ret10 rfl ?_ (by rfl)
 simp only [get_cons, frz, vtup, Nat.reduceEqDiff, if_true, if_false, reduceIte]
 rw [hk]
theorem people1_v (n : Int) (M : Mem) : VC Tryd.prog 43 [vi n] M (fun r M' => M' = M ∧ r = vb (!inR n 0 10000)) := by
 refine VC_own' T_ok (f := 43) (fn := Tryd.f43) (by kernel_rfl) rfl Tryd.ntmps43 (by rfl) (by rfl) ?_
 ((repeat refine Ws ?_);refine Wr ?_)
 simp (maxSteps := 1000000) only [VL,VM,↓VG,reduceIte,reduceCtorEq,zA,zB,zC,zD,zE,zF,zG,zH,zI,zJ]
 ((repeat refine Ws ?_);refine Wr ?_)
 simp (maxSteps := 1000000) only [VL,VM,↓VG,reduceIte,reduceCtorEq,zA,zB,zC,zD,zE,zF,zG,zH,zI,zJ]
 apply call_eq (f := 21) (fn := Tryd.f21) (by kernel_rfl) (by rfl)
 ·exact in_v _ _ _ _
 simp (maxSteps := 1000000) only [VL,VM,↓VG,reduceIte,reduceCtorEq,zA,zB,zC,zD,zE,zF,zG,zH,zI,zJ]
 (repeat refine Ws ?_)
 refine W_ret ?_
 try simp only [thenQ, blockQ]
 refine own_ret10 rfl ?_ (by rfl)
 simp only [get_cons, frz, vtup, Nat.reduceEqDiff, if_true, if_false, reduceIte]
theorem people_v (l : List Int) (M : Mem) (hl : l.length ≤ 1000000) : VC Tryd.prog 18 [intsV l] M (fun r M' => M' = M ∧ r = vb (l.all fun n => inR n 0 10000)) := by
 refine VC_own' T_ok (f := 18) (fn := Tryd.f18) (by kernel_rfl) rfl Tryd.ntmps18 (by rfl) (by rfl) ?_
 ((repeat refine Ws ?_);refine Wr ?_)
 simp (maxSteps := 1000000) only [VL,VM,↓VG,reduceIte,reduceCtorEq,zA,zB,zC,zD,zE,zF,zG,zH,zI,zJ]
 ((repeat refine Ws ?_);refine Wr ?_)
 simp (maxSteps := 1000000) only [VL,VM,↓VG,reduceIte,reduceCtorEq,zA,zB,zC,zD,zE,zF,zG,zH,zI,zJ]
 apply call_eq (f := 42) (fn := Tryd.f42) (by kernel_rfl) (by rfl)
 ·exact containsints_v _ l (fun n => !inR n 0 10000) _ hl rfl (fun x _ => call_eq (f := 43) (fn := Tryd.f43) (by kernel_rfl) (by rfl) (args := [vi x]) (people1_v x M) ⟨rfl, rfl⟩)
 simp (maxSteps := 1000000) only [VL,VM,↓VG,reduceIte,reduceCtorEq,zA,zB,zC,zD,zE,zF,zG,zH,zI,zJ]
 (repeat refine Ws ?_)
 refine W_ret ?_
 try simp only [thenQ, blockQ]
 refine own_ret10 rfl ?_ (by rfl)
 simp only [get_cons, frz, vtup, Nat.reduceEqDiff, if_true, if_false, reduceIte]
 simp
 rw [List.all_eq_not_any_not, Bool.not_not]
theorem span_v (x : Sp) (M : Mem) : VC Tryd.prog 20 [spV x] M (fun r M' => M' = M ∧ r = vi (spErr x)) := by
 refine VC_own' T_ok (f := 20) (fn := Tryd.f20) (by kernel_rfl) rfl Tryd.ntmps20 (by rfl) (by rfl) ?_
 ((repeat refine Ws ?_);refine Wr ?_)
 simp (maxSteps := 1000000) only [VL,VM,↓VG,reduceIte,reduceCtorEq,zA,zB,zC,zD,zE,zF,zG,zH,zI,zJ]
 ((repeat refine Ws ?_);refine W_block ?_)
 ((repeat refine Ws ?_);refine Wr ?_)
 simp (maxSteps := 1000000) only [VL,VM,↓VG,reduceIte,reduceCtorEq,zA,zB,zC,zD,zE,zF,zG,zH,zI,zJ]
 apply call_eq (f := 18) (fn := Tryd.f18) (by kernel_rfl) (by rfl)
 ·exact people_v [x.lo, x.hi] _ (by simp)
 have hall : ([x.lo, x.hi].all fun n => inR n 0 10000) = (inR x.lo 0 10000 && inR x.hi 0 10000) := by simp
 rw [hall]
 have e1 : spErr x = spErr x := rfl
 conv at e1 => rhs; unfold spErr
 cases h1 : inR x.lo 0 10000 && inR x.hi 0 10000
 ·rw [h1] at e1
  simp (maxSteps := 1000000) only [VL,VM,↓VG,reduceIte,reduceCtorEq,zA,zB,zC,zD,zE,zF,zG,zH,zI,zJ]
  ((repeat refine Ws ?_);refine Wt (by first|rfl|simp only [EV,zF,reduceIte]) ?_)
  ((repeat refine Ws ?_);refine Wr ?_)
  simp (maxSteps := 1000000) only [VL,VM,↓VG,reduceIte,reduceCtorEq,zA,zB,zC,zD,zE,zF,zG,zH,zI,zJ]
  (repeat refine Ws ?_)
  refine W_ret ?_
  try simp only [thenQ, blockQ]
  refine own_ret1 rfl ?_ (by rfl)
  simp only [get_cons, frz, vtup, Nat.reduceEqDiff, if_true, if_false, reduceIte]
  rw [e1]; rfl
 rw [h1] at e1
 simp (maxSteps := 1000000) only [VL,VM,↓VG,reduceIte,reduceCtorEq,zA,zB,zC,zD,zE,zF,zG,zH,zI,zJ]
 ((repeat refine Ws ?_);refine Wf (by first|rfl|simp only [EV,zF,reduceIte]) ?_)
 ((repeat refine Ws ?_);refine Wr ?_)
 by_cases h2 : x.hi < x.lo
 ·have k : (x.hi < x.lo) = True := eq_true h2
  simp (maxSteps := 1000000) only [VL,VM,↓VG,reduceIte,reduceCtorEq,zA,zB,zC,zD,zE,zF,zG,zH,zI,zJ, k]
  ((repeat refine Ws ?_);refine Wt (by first|rfl|simp only [EV,zF,reduceIte]) ?_)
  ((repeat refine Ws ?_);refine Wr ?_)
  simp (maxSteps := 1000000) only [VL,VM,↓VG,reduceIte,reduceCtorEq,zA,zB,zC,zD,zE,zF,zG,zH,zI,zJ]
  (repeat refine Ws ?_)
  refine W_ret ?_
  try simp only [thenQ, blockQ]
  refine own_ret1 rfl ?_ (by rfl)
  simp only [get_cons, frz, vtup, Nat.reduceEqDiff, if_true, if_false, reduceIte]
  rw [e1, if_pos rfl, if_pos h2]
 have k : (x.hi < x.lo) = False := eq_false h2
 simp (maxSteps := 1000000) only [VL,VM,↓VG,reduceIte,reduceCtorEq,zA,zB,zC,zD,zE,zF,zG,zH,zI,zJ, k]
 ((repeat refine Ws ?_);refine Wf (by first|rfl|simp only [EV,zF,reduceIte]) ?_)
 ((repeat refine Ws ?_);refine W_skip ?_)
 simp (maxSteps := 1000000) only [VL,VM,↓VG,reduceIte,reduceCtorEq,zA,zB,zC,zD,zE,zF,zG,zH,zI,zJ]
 ((repeat refine Ws ?_);refine Wr ?_)
 simp (maxSteps := 1000000) only [VL,VM,↓VG,reduceIte,reduceCtorEq,zA,zB,zC,zD,zE,zF,zG,zH,zI,zJ]
 (repeat refine Ws ?_)
 refine W_ret ?_
 try simp only [thenQ, blockQ]
 refine own_ret1 rfl ?_ (by rfl)
 simp only [get_cons, frz, vtup, Nat.reduceEqDiff, if_true, if_false, reduceIte]
 rw [e1, if_pos rfl, if_neg h2]
theorem door_v (h : Ho) (d : Do) (M : Mem) (hl : h.holds.length ≤ 1000000) : VC Tryd.prog 19 [houseV h, doV d] M (fun r M' => M' = M ∧ r = vi (doErr h.holds.length d)) := by
 have k0 : -9223372036854775808 ≤ (h.holds.length : Int) - 1 ∧ (h.holds.length : Int) - 1 < 9223372036854775808 := by omega
 refine VC_own' T_ok (f := 19) (fn := Tryd.f19) (by kernel_rfl) rfl Tryd.ntmps19 (by rfl) (by rfl) ?_
 ((repeat refine Ws ?_);refine Wr ?_)
 simp (maxSteps := 1000000) only [VL,VM,↓VG,reduceIte,reduceCtorEq,zA,zB,zC,zD,zE,zF,zG,zH,zI,zJ]
 ((repeat refine Ws ?_);refine Wr ?_)
 simp (maxSteps := 1000000) only [VL,VM,↓VG,reduceIte,reduceCtorEq,zA,zB,zC,zD,zE,zF,zG,zH,zI,zJ, k0]
 ((repeat refine Ws ?_);refine W_block ?_)
 ((repeat refine Ws ?_);refine Wr ?_)
 simp (maxSteps := 1000000) only [VL,VM,↓VG,reduceIte,reduceCtorEq,zA,zB,zC,zD,zE,zF,zG,zH,zI,zJ]
 apply call_eq (f := 21) (fn := Tryd.f21) (by kernel_rfl) (by rfl)
 ·exact in_v _ _ _ _
 have e1 : doErr h.holds.length d = doErr h.holds.length d := rfl
 conv at e1 => rhs; unfold doErr
 cases h1 : inR d.a (-1) ((h.holds.length : Int) - 1)
 ·rw [h1] at e1
  simp (maxSteps := 1000000) only [VL,VM,↓VG,reduceIte,reduceCtorEq,zA,zB,zC,zD,zE,zF,zG,zH,zI,zJ]
  ((repeat refine Ws ?_);refine Wt (by first|rfl|simp only [EV,zF,reduceIte]) ?_)
  ((repeat refine Ws ?_);refine W_skip ?_)
  simp (maxSteps := 1000000) only [VL,VM,↓VG,reduceIte,reduceCtorEq,zA,zB,zC,zD,zE,zF,zG,zH,zI,zJ]
  ((repeat refine Ws ?_);refine Wt (by first|rfl|simp only [EV,zF,reduceIte]) ?_)
  ((repeat refine Ws ?_);refine Wr ?_)
  simp (maxSteps := 1000000) only [VL,VM,↓VG,reduceIte,reduceCtorEq,zA,zB,zC,zD,zE,zF,zG,zH,zI,zJ]
  (repeat refine Ws ?_)
  refine W_ret ?_
  try simp only [thenQ, blockQ]
  refine own_ret1 rfl ?_ (by rfl)
  simp only [get_cons, frz, vtup, Nat.reduceEqDiff, if_true, if_false, reduceIte]
  rw [e1]; rfl
 rw [h1] at e1
 simp (maxSteps := 1000000) only [VL,VM,↓VG,reduceIte,reduceCtorEq,zA,zB,zC,zD,zE,zF,zG,zH,zI,zJ]
 ((repeat refine Ws ?_);refine Wf (by first|rfl|simp only [EV,zF,reduceIte]) ?_)
 ((repeat refine Ws ?_);refine Wr ?_)
 simp (maxSteps := 1000000) only [VL,VM,↓VG,reduceIte,reduceCtorEq,zA,zB,zC,zD,zE,zF,zG,zH,zI,zJ]
 apply call_eq (f := 21) (fn := Tryd.f21) (by kernel_rfl) (by rfl)
 ·exact in_v _ _ _ _
 cases h2 : inR d.b (-1) ((h.holds.length : Int) - 1)
 ·rw [h2] at e1
  simp (maxSteps := 1000000) only [VL,VM,↓VG,reduceIte,reduceCtorEq,zA,zB,zC,zD,zE,zF,zG,zH,zI,zJ]
  ((repeat refine Ws ?_);refine Wt (by first|rfl|simp only [EV,zF,reduceIte]) ?_)
  ((repeat refine Ws ?_);refine Wr ?_)
  simp (maxSteps := 1000000) only [VL,VM,↓VG,reduceIte,reduceCtorEq,zA,zB,zC,zD,zE,zF,zG,zH,zI,zJ]
  (repeat refine Ws ?_)
  refine W_ret ?_
  try simp only [thenQ, blockQ]
  refine own_ret1 rfl ?_ (by rfl)
  simp only [get_cons, frz, vtup, Nat.reduceEqDiff, if_true, if_false, reduceIte]
  rw [e1]; rfl
 rw [h2] at e1
 simp (maxSteps := 1000000) only [VL,VM,↓VG,reduceIte,reduceCtorEq,zA,zB,zC,zD,zE,zF,zG,zH,zI,zJ]
 ((repeat refine Ws ?_);refine Wf (by first|rfl|simp only [EV,zF,reduceIte]) ?_)
 ((repeat refine Ws ?_);refine Wr ?_)
 by_cases h3 : d.a = d.b
 ·have k : (d.a = d.b) = True := eq_true h3
  simp (maxSteps := 1000000) only [VL,VM,↓VG,reduceIte,reduceCtorEq,zA,zB,zC,zD,zE,zF,zG,zH,zI,zJ, k]
  ((repeat refine Ws ?_);refine Wt (by first|rfl|simp only [EV,zF,reduceIte]) ?_)
  ((repeat refine Ws ?_);refine Wr ?_)
  simp (maxSteps := 1000000) only [VL,VM,↓VG,reduceIte,reduceCtorEq,zA,zB,zC,zD,zE,zF,zG,zH,zI,zJ]
  (repeat refine Ws ?_)
  refine W_ret ?_
  try simp only [thenQ, blockQ]
  refine own_ret1 rfl ?_ (by rfl)
  simp only [get_cons, frz, vtup, Nat.reduceEqDiff, if_true, if_false, reduceIte]
  rw [e1, if_pos (show (true && true) = true from rfl), if_pos h3]
 have k : (d.a = d.b) = False := eq_false h3
 simp (maxSteps := 1000000) only [VL,VM,↓VG,reduceIte,reduceCtorEq,zA,zB,zC,zD,zE,zF,zG,zH,zI,zJ, k]
 ((repeat refine Ws ?_);refine Wf (by first|rfl|simp only [EV,zF,reduceIte]) ?_)
 ((repeat refine Ws ?_);refine Wr ?_)
 simp (maxSteps := 1000000) only [VL,VM,↓VG,reduceIte,reduceCtorEq,zA,zB,zC,zD,zE,zF,zG,zH,zI,zJ]
 apply call_eq (f := 18) (fn := Tryd.f18) (by kernel_rfl) (by rfl)
 ·exact people_v [d.flow] _ (by simp)
 have hall : ([d.flow].all fun n => inR n 0 10000) = inR d.flow 0 10000 := by simp
 rw [hall]
 cases h4 : inR d.flow 0 10000
 ·simp (maxSteps := 1000000) only [VL,VM,↓VG,reduceIte,reduceCtorEq,zA,zB,zC,zD,zE,zF,zG,zH,zI,zJ]
  ((repeat refine Ws ?_);refine Wt (by first|rfl|simp only [EV,zF,reduceIte]) ?_)
  ((repeat refine Ws ?_);refine Wr ?_)
  simp (maxSteps := 1000000) only [VL,VM,↓VG,reduceIte,reduceCtorEq,zA,zB,zC,zD,zE,zF,zG,zH,zI,zJ]
  (repeat refine Ws ?_)
  refine W_ret ?_
  try simp only [thenQ, blockQ]
  refine own_ret1 rfl ?_ (by rfl)
  simp only [get_cons, frz, vtup, Nat.reduceEqDiff, if_true, if_false, reduceIte]
  rw [e1, if_pos (show (true && true) = true from rfl), if_neg h3, h4]; rfl
 simp (maxSteps := 1000000) only [VL,VM,↓VG,reduceIte,reduceCtorEq,zA,zB,zC,zD,zE,zF,zG,zH,zI,zJ]
 ((repeat refine Ws ?_);refine Wf (by first|rfl|simp only [EV,zF,reduceIte]) ?_)
 ((repeat refine Ws ?_);refine W_skip ?_)
 simp (maxSteps := 1000000) only [VL,VM,↓VG,reduceIte,reduceCtorEq,zA,zB,zC,zD,zE,zF,zG,zH,zI,zJ]
 ((repeat refine Ws ?_);refine Wr ?_)
 simp (maxSteps := 1000000) only [VL,VM,↓VG,reduceIte,reduceCtorEq,zA,zB,zC,zD,zE,zF,zG,zH,zI,zJ]
 (repeat refine Ws ?_)
 refine W_ret ?_
 try simp only [thenQ, blockQ]
 refine own_ret1 rfl ?_ (by rfl)
 simp only [get_cons, frz, vtup, Nat.reduceEqDiff, if_true, if_false, reduceIte]
 rw [e1, if_pos (show (true && true) = true from rfl), if_neg h3, h4]; rfl
structure ChkSt where
 i : Nat
 junk : List VObj
structure MapSt where
 i : Nat
 es : List (List Int × VV)
 junk : List VObj
theorem doorsErr_drop {n : Nat} {ds : List Do} {i : Nat} {d : Do} (hx : ds[i]? = some d) (h : doorsErr n ds = doorsErr n (ds.drop i)) : doorsErr n ds = if doErr n d = 0 then doorsErr n (ds.drop (i + 1)) else doErr n d := by
 obtain ⟨hlt, hd⟩ := List.getElem?_eq_some_iff.1 hx
 rw [h, List.drop_eq_getElem_cons hlt, hd, doorsErr]
theorem cosErr_drop {h : Ho} {i : Nat} {c : Co} (hx : h.counts[i]? = some c) (e : cosErr h [] h.counts = cosErr h (h.counts.take i) (h.counts.drop i)) : cosErr h [] h.counts = if coErr h (h.counts.take i) c = 0 then cosErr h (h.counts.take (i + 1)) (h.counts.drop (i + 1)) else coErr h (h.counts.take i) c := by
 obtain ⟨hlt, hd⟩ := List.getElem?_eq_some_iff.1 hx
 rw [e, List.drop_eq_getElem_cons hlt, hd, cosErr, List.take_add_one, hx]
 rfl
set_option maxHeartbeats 1000000 in
set_option maxRecDepth 8000 in
theorem check_v (h : Ho) (M : Mem) (hl : h.holds.length ≤ 1000000) (hld : h.doors.length ≤ 1000000) (hlc : h.counts.length ≤ 1000000) : VC Tryd.prog 8 [houseV h] M (fun r M' => M' = M ∧ r = vi (houseErr h)) := by
 refine VC_own' T_ok (f := 8) (fn := Tryd.f8) (by kernel_rfl) rfl Tryd.ntmps8 (by rfl) (by rfl) ?_
 ((repeat refine Ws ?_);refine Wr ?_)
 simp (maxSteps := 1000000) only [VL,VM,↓VG,reduceIte,reduceCtorEq,zA,zB,zC,zD,zE,zF,zG,zH,zI,zJ]
 ((repeat refine Ws ?_);refine W_block ?_)
 have e1 : houseErr h = houseErr h := rfl
 conv at e1 => rhs; unfold houseErr
 ((repeat refine Ws ?_);refine Wr ?_)
 by_cases a1 : h.holds.length = 0
 ·have k : ((h.holds.length : Int) = 0) = True := eq_true (by omega)
  rw [if_pos a1] at e1
  simp (maxSteps := 1000000) only [VL,VM,↓VG,reduceIte,reduceCtorEq,zA,zB,zC,zD,zE,zF,zG,zH,zI,zJ, k]
  ((repeat refine Ws ?_);refine Wt (by first|rfl|simp only [EV,zF,reduceIte]) ?_)
  ((repeat refine Ws ?_);refine Wr ?_)
  simp (maxSteps := 1000000) only [VL,VM,↓VG,reduceIte,reduceCtorEq,zA,zB,zC,zD,zE,zF,zG,zH,zI,zJ]
  (repeat refine Ws ?_)
  refine W_ret ?_
  try simp only [thenQ, blockQ]
  refine own_ret1 rfl ?_ (by rfl)
  simp only [get_cons, frz, vtup, Nat.reduceEqDiff, if_true, if_false, reduceIte]
  rw [e1]
 have k : ((h.holds.length : Int) = 0) = False := eq_false (by omega)
 rw [if_neg a1] at e1
 simp (maxSteps := 1000000) only [VL,VM,↓VG,reduceIte,reduceCtorEq,zA,zB,zC,zD,zE,zF,zG,zH,zI,zJ, k]
 ((repeat refine Ws ?_);refine Wf (by first|rfl|simp only [EV,zF,reduceIte]) ?_)
 ((repeat refine Ws ?_);refine Wr ?_)
 by_cases a2 : 4 < h.holds.length
 ·have k : ((4 : Int) < (h.holds.length : Int)) = True := eq_true (by omega)
  rw [if_pos a2] at e1
  simp (maxSteps := 1000000) only [VL,VM,↓VG,reduceIte,reduceCtorEq,zA,zB,zC,zD,zE,zF,zG,zH,zI,zJ, k]
  ((repeat refine Ws ?_);refine Wt (by first|rfl|simp only [EV,zF,reduceIte]) ?_)
  ((repeat refine Ws ?_);refine Wr ?_)
  simp (maxSteps := 1000000) only [VL,VM,↓VG,reduceIte,reduceCtorEq,zA,zB,zC,zD,zE,zF,zG,zH,zI,zJ]
  (repeat refine Ws ?_)
  refine W_ret ?_
  try simp only [thenQ, blockQ]
  refine own_ret1 rfl ?_ (by rfl)
  simp only [get_cons, frz, vtup, Nat.reduceEqDiff, if_true, if_false, reduceIte]
  rw [e1]
 have k : ((4 : Int) < (h.holds.length : Int)) = False := eq_false (by omega)
 rw [if_neg a2] at e1
 simp (maxSteps := 1000000) only [VL,VM,↓VG,reduceIte,reduceCtorEq,zA,zB,zC,zD,zE,zF,zG,zH,zI,zJ, k]
 ((repeat refine Ws ?_);refine Wf (by first|rfl|simp only [EV,zF,reduceIte]) ?_)
 ((repeat refine Ws ?_);refine Wr ?_)
 simp (maxSteps := 1000000) only [VL,VM,↓VG,reduceIte,reduceCtorEq,zA,zB,zC,zD,zE,zF,zG,zH,zI,zJ]
 apply call_eq (f := 18) (fn := Tryd.f18) (by kernel_rfl) (by rfl)
 ·exact people_v h.holds _ hl
 cases a3 : h.holds.all fun n => inR n 0 10000
 ·rw [a3] at e1
  simp (maxSteps := 1000000) only [VL,VM,↓VG,reduceIte,reduceCtorEq,zA,zB,zC,zD,zE,zF,zG,zH,zI,zJ]
  ((repeat refine Ws ?_);refine Wt (by first|rfl|simp only [EV,zF,reduceIte]) ?_)
  ((repeat refine Ws ?_);refine Wr ?_)
  simp (maxSteps := 1000000) only [VL,VM,↓VG,reduceIte,reduceCtorEq,zA,zB,zC,zD,zE,zF,zG,zH,zI,zJ]
  (repeat refine Ws ?_)
  refine W_ret ?_
  try simp only [thenQ, blockQ]
  refine own_ret1 rfl ?_ (by rfl)
  simp only [get_cons, frz, vtup, Nat.reduceEqDiff, if_true, if_false, reduceIte]
  rw [e1]; rfl
 rw [a3, if_pos rfl] at e1
 simp (maxSteps := 1000000) only [VL,VM,↓VG,reduceIte,reduceCtorEq,zA,zB,zC,zD,zE,zF,zG,zH,zI,zJ]
 ((repeat refine Ws ?_);refine Wf (by first|rfl|simp only [EV,zF,reduceIte]) ?_)
 ((repeat refine Ws ?_);refine Wr ?_)
 by_cases a4 : 5 < h.doors.length
 ·have k : ((5 : Int) < (h.doors.length : Int)) = True := eq_true (by omega)
  rw [if_pos a4] at e1
  simp (maxSteps := 1000000) only [VL,VM,↓VG,reduceIte,reduceCtorEq,zA,zB,zC,zD,zE,zF,zG,zH,zI,zJ, k]
  ((repeat refine Ws ?_);refine Wt (by first|rfl|simp only [EV,zF,reduceIte]) ?_)
  ((repeat refine Ws ?_);refine Wr ?_)
  simp (maxSteps := 1000000) only [VL,VM,↓VG,reduceIte,reduceCtorEq,zA,zB,zC,zD,zE,zF,zG,zH,zI,zJ]
  (repeat refine Ws ?_)
  refine W_ret ?_
  try simp only [thenQ, blockQ]
  refine own_ret1 rfl ?_ (by rfl)
  simp only [get_cons, frz, vtup, Nat.reduceEqDiff, if_true, if_false, reduceIte]
  rw [e1]
 have k : ((5 : Int) < (h.doors.length : Int)) = False := eq_false (by omega)
 rw [if_neg a4] at e1
 simp (maxSteps := 1000000) only [VL,VM,↓VG,reduceIte,reduceCtorEq,zA,zB,zC,zD,zE,zF,zG,zH,zI,zJ, k]
 ((repeat refine Ws ?_);refine Wf (by first|rfl|simp only [EV,zF,reduceIte]) ?_)
 ((repeat refine Ws ?_);refine W_skip ?_)
 simp (maxSteps := 1000000) only [VL,VM,↓VG,reduceIte,reduceCtorEq,zA,zB,zC,zD,zE,zF,zG,zH,zI,zJ]
 ((repeat refine Ws ?_);refine Wr ?_)
 simp (maxSteps := 1000000) only [VL,VM,↓VG,reduceIte,reduceCtorEq,zA,zB,zC,zD,zE,zF,zG,zH,zI,zJ]
 ((repeat refine Ws ?_);refine W_block ?_; (repeat refine Ws ?_)); refine W_loopS (fun s : ChkSt => [(0, houseV h), (1, .ptr M.H.length 0), (34, dosV h.doors), (35, vi h.doors.length), (36, vi s.i)]) (fun s => ⟨M.H ++ (.obj (houseC h) :: s.junk), M.lg⟩) (fun s => h.doors.length - s.i) (fun s => s.i ≤ h.doors.length ∧ doorsErr h.holds.length h.doors = doorsErr h.holds.length (h.doors.drop s.i) ∧ ∀ d ∈ h.doors.take s.i, DoV h.holds.length d) ⟨0, []⟩ ⟨Nat.zero_le _, rfl, by simp⟩ ⟨rfl, rfl, rfl, rfl, rfl, trivial⟩ rfl ?_
 rintro ⟨i, junk⟩ ⟨hi, hde, hok⟩
 simp only at hi hde hok
 have k1 : -9223372036854775808 ≤ (i : Int) + 1 ∧ (i : Int) + 1 < 9223372036854775808 := by omega
 ((repeat refine Ws ?_);refine Wr ?_)
 rcases Nat.lt_or_ge i h.doors.length with hlt | hge
 ·have k2 : ((i : Int) < (h.doors.length : Int)) = True := eq_true (by omega)
  have hx : h.doors[i]? = some h.doors[i] := List.getElem?_eq_getElem hlt
  generalize h.doors[i] = d at hx
  have hx' := map_at (f := doP) hx
  have hst := doorsErr_drop hx hde
  simp (maxSteps := 1000000) only [VL,VM,↓VG,reduceIte,reduceCtorEq,zA,zB,zC,zD,zE,zF,zG,zH,zI,zJ, k2]
  ((repeat refine Ws ?_);refine Wt (by first|rfl|simp only [EV,zF,reduceIte]) ?_)
  ((repeat refine Ws ?_);refine W_skip ?_)
  simp (maxSteps := 1000000) only [VL,VM,↓VG,reduceIte,reduceCtorEq,zA,zB,zC,zD,zE,zF,zG,zH,zI,zJ]
  ((repeat refine Ws ?_);refine W_block ?_)
  ((repeat refine Ws ?_);refine Wr ?_)
  simp (maxSteps := 1000000) only [VL,VM,↓VG,reduceIte,reduceCtorEq,zA,zB,zC,zD,zE,zF,zG,zH,zI,zJ, hx']
  ((repeat refine Ws ?_);refine Wr ?_)
  simp (maxSteps := 1000000) only [VL,VM,↓VG,reduceIte,reduceCtorEq,zA,zB,zC,zD,zE,zF,zG,zH,zI,zJ]
  apply call_eq (f := 19) (fn := Tryd.f19) (by kernel_rfl) (by rfl)
  ·exact door_v h d _ hl
  simp (maxSteps := 1000000) only [VL,VM,↓VG,reduceIte,reduceCtorEq,zA,zB,zC,zD,zE,zF,zG,zH,zI,zJ]
  ((repeat refine Ws ?_);refine Wr ?_)
  by_cases b2 : doErr h.holds.length d = 0
  rotate_left
  ·rw [if_neg b2] at hst
   rw [hst, if_neg b2] at e1
   simp (maxSteps := 1000000) only [VL,VM,↓VG,reduceIte,reduceCtorEq,zA,zB,zC,zD,zE,zF,zG,zH,zI,zJ, b2]
   ((repeat refine Ws ?_);refine Wt (by first|rfl|simp only [EV,zF,reduceIte]) ?_)
   ((repeat refine Ws ?_);refine Wr ?_)
   simp (maxSteps := 1000000) only [VL,VM,↓VG,reduceIte,reduceCtorEq,zA,zB,zC,zD,zE,zF,zG,zH,zI,zJ]
   (repeat refine Ws ?_)
   refine W_ret ?_
   try simp only [thenQ, blockQ]
   refine own_ret1 rfl ?_ (by rfl)
   simp only [get_cons, frz, vtup, Nat.reduceEqDiff, if_true, if_false, reduceIte]
   rw [e1]
  rw [if_pos b2] at hst
  simp (maxSteps := 1000000) only [VL,VM,↓VG,reduceIte,reduceCtorEq,zA,zB,zC,zD,zE,zF,zG,zH,zI,zJ, b2]
  ((repeat refine Ws ?_);refine Wf (by first|rfl|simp only [EV,zF,reduceIte]) ?_)
  ((repeat refine Ws ?_);refine W_skip ?_)
  simp (maxSteps := 1000000) only [VL,VM,↓VG,reduceIte,reduceCtorEq,zA,zB,zC,zD,zE,zF,zG,zH,zI,zJ]
  ((repeat refine Ws ?_);refine Wr ?_)
  simp (maxSteps := 1000000) only [VL,VM,↓VG,reduceIte,reduceCtorEq,zA,zB,zC,zD,zE,zF,zG,zH,zI,zJ, k1]
  refine LoopK.mk ⟨i + 1, junk ++ [.obj [vi d.a, vi d.b, vi d.flow]]⟩ (by simp only; omega) ⟨by simp only; omega, hst, fun d' hd' => ?_⟩ ⟨rfl, rfl, rfl, rfl, rfl, trivial⟩ rfl
  simp only at hd'
  rw [List.take_add_one, hx] at hd'
  rcases List.mem_append.1 hd' with q | q
  ·exact hok d' q
  ·simp only [Option.toList_some, List.mem_singleton] at q
   rw [q]; exact doErr_ok.1 b2
 have k2 : ((i : Int) < (h.doors.length : Int)) = False := eq_false (by omega)
 obtain rfl : i = h.doors.length := by omega
 rw [List.drop_length, doorsErr] at hde
 rw [List.take_length] at hok
 rw [hde, if_pos rfl] at e1
 unfold restErr at e1
 clear hge k1
 simp (maxSteps := 1000000) only [VL,VM,↓VG,reduceIte,reduceCtorEq,zA,zB,zC,zD,zE,zF,zG,zH,zI,zJ, k2]
 ((repeat refine Ws ?_);refine Wf (by first|rfl|simp only [EV,zF,reduceIte]) ?_)
 ((repeat refine Ws ?_);refine W_exit ?_)
 simp (maxSteps := 1000000) only [VL,VM,↓VG,reduceIte,reduceCtorEq,zA,zB,zC,zD,zE,zF,zG,zH,zI,zJ]
 obtain ⟨H1, hH1⟩ : ∃ H1, H1 = M.H ++ (VObj.obj (houseC h) :: junk) := ⟨_, rfl⟩
 have hend : ∀ L, H1 ++ L = M.H ++ (VObj.obj (houseC h) :: (junk ++ L)) := fun L => by rw [hH1]; simp
 have hh : ∀ L, (H1 ++ L)[M.H.length]? = some (.obj (houseC h)) := fun L => by rw [hend, hget0]; rfl
 have hh0 : H1[M.H.length]? = some (.obj (houseC h)) := by rw [hH1, hget0]; rfl
 have hend0 : H1 = M.H ++ (VObj.obj (houseC h) :: junk) := hH1
 have hret : ∀ (H2 : List VObj) (e : Env) (n : Int), (∃ L, H2 = M.H ++ L) → get e 2 = vi n → n = houseErr h → ownQ T 8 Tryd.f8 M (fun r M' => M' = M ∧ r = vi (houseErr h)) .ret e ⟨H2, M.lg⟩ [] := fun H2 e n hL h1 h2 => by
  obtain ⟨L, rfl⟩ := hL
  exact own_ret1 rfl (by rw [h1, h2]; rfl) rfl
 rw [← hH1]
 ((repeat refine Ws ?_);refine Wr ?_)
 simp (maxSteps := 1000000) only [VL,VM,↓VG,reduceIte,reduceCtorEq,zA,zB,zC,zD,zE,zF,zG,zH,zI,zJ, hh0]
 apply call_eq (f := 20) (fn := Tryd.f20) (by kernel_rfl) (by rfl)
 ·exact span_v h.first _
 simp (maxSteps := 1000000) only [VL,VM,↓VG,reduceIte,reduceCtorEq,zA,zB,zC,zD,zE,zF,zG,zH,zI,zJ]
 ((repeat refine Ws ?_);refine Wr ?_)
 by_cases a5 : spErr h.first = 0
 rotate_left
 ·rw [if_neg a5] at e1
  simp (maxSteps := 1000000) only [VL,VM,↓VG,reduceIte,reduceCtorEq,zA,zB,zC,zD,zE,zF,zG,zH,zI,zJ, a5]
  ((repeat refine Ws ?_);refine Wt (by first|rfl|simp only [EV,zF,reduceIte]) ?_)
  ((repeat refine Ws ?_);refine Wr ?_)
  simp (maxSteps := 1000000) only [VL,VM,↓VG,reduceIte,reduceCtorEq,zA,zB,zC,zD,zE,zF,zG,zH,zI,zJ]
  (repeat refine Ws ?_)
  refine W_ret ?_
  try simp only [thenQ, blockQ]
  refine hret _ _ _ ⟨_, hend0⟩ rfl e1.symm
 rw [if_pos a5] at e1
 simp (maxSteps := 1000000) only [VL,VM,↓VG,reduceIte,reduceCtorEq,zA,zB,zC,zD,zE,zF,zG,zH,zI,zJ, a5]
 ((repeat refine Ws ?_);refine Wf (by first|rfl|simp only [EV,zF,reduceIte]) ?_)
 ((repeat refine Ws ?_);refine W_skip ?_)
 simp (maxSteps := 1000000) only [VL,VM,↓VG,reduceIte,reduceCtorEq,zA,zB,zC,zD,zE,zF,zG,zH,zI,zJ]
 ((repeat refine Ws ?_);refine W_block ?_)
 ((repeat refine Ws ?_);refine Wr ?_)
 simp (maxSteps := 1000000) only [VL,VM,↓VG,reduceIte,reduceCtorEq,zA,zB,zC,zD,zE,zF,zG,zH,zI,zJ, hh0]
 apply call_eq (f := 21) (fn := Tryd.f21) (by kernel_rfl) (by rfl)
 ·exact in_v _ _ _ _
 cases a6 : inR h.ticks 0 12
 ·rw [a6] at e1
  simp (maxSteps := 1000000) only [VL,VM,↓VG,reduceIte,reduceCtorEq,zA,zB,zC,zD,zE,zF,zG,zH,zI,zJ]
  ((repeat refine Ws ?_);refine Wt (by first|rfl|simp only [EV,zF,reduceIte]) ?_)
  ((repeat refine Ws ?_);refine Wr ?_)
  simp (maxSteps := 1000000) only [VL,VM,↓VG,reduceIte,reduceCtorEq,zA,zB,zC,zD,zE,zF,zG,zH,zI,zJ]
  (repeat refine Ws ?_)
  refine W_ret ?_
  try simp only [thenQ, blockQ]
  refine hret _ _ _ ⟨_, hend0⟩ rfl e1.symm
 rw [a6, if_pos rfl] at e1
 simp (maxSteps := 1000000) only [VL,VM,↓VG,reduceIte,reduceCtorEq,zA,zB,zC,zD,zE,zF,zG,zH,zI,zJ]
 ((repeat refine Ws ?_);refine Wf (by first|rfl|simp only [EV,zF,reduceIte]) ?_)
 ((repeat refine Ws ?_);refine Wr ?_)
 by_cases a7 : 24 < h.counts.length
 ·have k : ((24 : Int) < (h.counts.length : Int)) = True := eq_true (by omega)
  rw [if_pos a7] at e1
  simp (maxSteps := 1000000) only [VL,VM,↓VG,reduceIte,reduceCtorEq,zA,zB,zC,zD,zE,zF,zG,zH,zI,zJ, hh0, k]
  ((repeat refine Ws ?_);refine Wt (by first|rfl|simp only [EV,zF,reduceIte]) ?_)
  ((repeat refine Ws ?_);refine Wr ?_)
  simp (maxSteps := 1000000) only [VL,VM,↓VG,reduceIte,reduceCtorEq,zA,zB,zC,zD,zE,zF,zG,zH,zI,zJ]
  (repeat refine Ws ?_)
  refine W_ret ?_
  try simp only [thenQ, blockQ]
  refine hret _ _ _ ⟨_, hend0⟩ rfl e1.symm
 have k : ((24 : Int) < (h.counts.length : Int)) = False := eq_false (by omega)
 rw [if_neg a7] at e1
 simp (maxSteps := 1000000) only [VL,VM,↓VG,reduceIte,reduceCtorEq,zA,zB,zC,zD,zE,zF,zG,zH,zI,zJ, hh0, k]
 ((repeat refine Ws ?_);refine Wf (by first|rfl|simp only [EV,zF,reduceIte]) ?_)
 ((repeat refine Ws ?_);refine W_skip ?_)
 simp (maxSteps := 1000000) only [VL,VM,↓VG,reduceIte,reduceCtorEq,zA,zB,zC,zD,zE,zF,zG,zH,zI,zJ]
 ((repeat refine Ws ?_);refine Wr ?_)
 simp (maxSteps := 1000000) only [VL,VM,↓VG,reduceIte,reduceCtorEq,zA,zB,zC,zD,zE,zF,zG,zH,zI,zJ]
 ((repeat refine Ws ?_);refine Wr ?_)
 simp (maxSteps := 1000000) only [VL,VM,↓VG,reduceIte,reduceCtorEq,zA,zB,zC,zD,zE,zF,zG,zH,zI,zJ, hh]
 ((repeat refine Ws ?_);refine W_block ?_; (repeat refine Ws ?_)); refine W_loopS (fun s : MapSt => [(0, houseV h), (1, .ptr M.H.length 0), (7, .mp H1.length), (65, cosV h.counts), (66, vi h.counts.length), (67, vi s.i)]) (fun s => ⟨H1 ++ (.mpo (.nums 2) s.es :: s.junk), M.lg⟩) (fun s => h.counts.length - s.i) (fun s => s.i ≤ h.counts.length ∧ cosErr h [] h.counts = cosErr h (h.counts.take s.i) (h.counts.drop s.i) ∧ ∀ c : Co, assoc [c.tick, c.door] s.es = if (h.counts.take s.i).any (sameKey c) then some (vb true) else none) ⟨0, [], []⟩ ⟨Nat.zero_le _, rfl, fun c => rfl⟩ ⟨rfl, rfl, rfl, rfl, rfl, rfl, trivial⟩ rfl ?_
 clear hde hh0
 rintro ⟨i, es, junk2⟩ ⟨hi, hce, hes⟩
 simp only at hi hce hes
 have k1 : -9223372036854775808 ≤ (i : Int) + 1 ∧ (i : Int) + 1 < 9223372036854775808 := by omega
 have hen : ∀ L, ∃ L', H1 ++ L = M.H ++ L' := fun L => ⟨_, hend L⟩
 have t0 := inR_true.1 a6
 ((repeat refine Ws ?_);refine Wr ?_)
 rcases Nat.lt_or_ge i h.counts.length with hlt | hge
 ·have k2 : ((i : Int) < (h.counts.length : Int)) = True := eq_true (by omega)
  have hx : h.counts[i]? = some h.counts[i] := List.getElem?_eq_getElem hlt
  generalize h.counts[i] = c at hx
  have hx' := map_at (f := coP) hx
  have hst := cosErr_drop hx hce
  have e2 : coErr h (h.counts.take i) c = coErr h (h.counts.take i) c := rfl
  conv at e2 => rhs; unfold coErr
  have k3 : -9223372036854775808 ≤ h.ticks - 1 ∧ h.ticks - 1 < 9223372036854775808 := by omega
  have k4 : -9223372036854775808 ≤ (h.doors.length : Int) - 1 ∧ (h.doors.length : Int) - 1 < 9223372036854775808 := by omega
  simp (maxSteps := 1000000) only [VL,VM,↓VG,reduceIte,reduceCtorEq,zA,zB,zC,zD,zE,zF,zG,zH,zI,zJ, k2]
  ((repeat refine Ws ?_);refine Wt (by first|rfl|simp only [EV,zF,reduceIte]) ?_)
  ((repeat refine Ws ?_);refine W_skip ?_)
  simp (maxSteps := 1000000) only [VL,VM,↓VG,reduceIte,reduceCtorEq,zA,zB,zC,zD,zE,zF,zG,zH,zI,zJ]
  ((repeat refine Ws ?_);refine W_block ?_)
  ((repeat refine Ws ?_);refine Wr ?_)
  simp (maxSteps := 1000000) only [VL,VM,↓VG,reduceIte,reduceCtorEq,zA,zB,zC,zD,zE,zF,zG,zH,zI,zJ, hx']
  ((repeat refine Ws ?_);refine Wr ?_)
  simp (maxSteps := 1000000) only [VL,VM,↓VG,reduceIte,reduceCtorEq,zA,zB,zC,zD,zE,zF,zG,zH,zI,zJ]
  ((repeat refine Ws ?_);refine W_block ?_)
  ((repeat refine Ws ?_);refine Wr ?_)
  simp (maxSteps := 1000000) only [VL,VM,↓VG,reduceIte,reduceCtorEq,zA,zB,zC,zD,zE,zF,zG,zH,zI,zJ, hh, k3]
  apply call_eq (f := 21) (fn := Tryd.f21) (by kernel_rfl) (by rfl)
  ·exact in_v _ _ _ _
  cases b1 : inR c.tick 0 (h.ticks - 1)
  ·rw [b1] at e2
   rw [e2] at hst
   simp (maxSteps := 1000000) only [VL,VM,↓VG,reduceIte,reduceCtorEq,zA,zB,zC,zD,zE,zF,zG,zH,zI,zJ]
   ((repeat refine Ws ?_);refine Wt (by first|rfl|simp only [EV,zF,reduceIte]) ?_)
   ((repeat refine Ws ?_);refine Wr ?_)
   simp (maxSteps := 1000000) only [VL,VM,↓VG,reduceIte,reduceCtorEq,zA,zB,zC,zD,zE,zF,zG,zH,zI,zJ]
   (repeat refine Ws ?_)
   refine W_ret ?_
   try simp only [thenQ, blockQ]
   refine hret _ _ _ (hen _) rfl ?_
   rw [e1, hst]; rfl
  rw [b1, if_pos rfl] at e2
  simp (maxSteps := 1000000) only [VL,VM,↓VG,reduceIte,reduceCtorEq,zA,zB,zC,zD,zE,zF,zG,zH,zI,zJ]
  ((repeat refine Ws ?_);refine Wf (by first|rfl|simp only [EV,zF,reduceIte]) ?_)
  ((repeat refine Ws ?_);refine Wr ?_)
  simp (maxSteps := 1000000) only [VL,VM,↓VG,reduceIte,reduceCtorEq,zA,zB,zC,zD,zE,zF,zG,zH,zI,zJ, hh, k4]
  apply call_eq (f := 21) (fn := Tryd.f21) (by kernel_rfl) (by rfl)
  ·exact in_v _ _ _ _
  cases b2 : inR c.door 0 ((h.doors.length : Int) - 1)
  ·rw [b2] at e2
   rw [e2] at hst
   simp (maxSteps := 1000000) only [VL,VM,↓VG,reduceIte,reduceCtorEq,zA,zB,zC,zD,zE,zF,zG,zH,zI,zJ]
   ((repeat refine Ws ?_);refine Wt (by first|rfl|simp only [EV,zF,reduceIte]) ?_)
   ((repeat refine Ws ?_);refine Wr ?_)
   simp (maxSteps := 1000000) only [VL,VM,↓VG,reduceIte,reduceCtorEq,zA,zB,zC,zD,zE,zF,zG,zH,zI,zJ]
   (repeat refine Ws ?_)
   refine W_ret ?_
   try simp only [thenQ, blockQ]
   refine hret _ _ _ (hen _) rfl ?_
   rw [e1, hst]; rfl
  rw [b2, if_pos rfl] at e2
  have hdr := inR_true.1 b2
  have hd0 : 0 ≤ c.door := hdr.1
  have hdlt : c.door.toNat < h.doors.length := by omega
  have hdx : h.doors[c.door.toNat]? = some (doAt h c.door) := by
   unfold doAt
   rw [List.getD_eq_getElem?_getD, List.getElem?_eq_getElem hdlt]; rfl
  have hdv := hok _ (List.mem_of_getElem? hdx)
  have da0 := hdv.a0
  have db0 := hdv.b0
  generalize doAt h c.door = d at hdx hdv e2 da0 db0
  have hdx' := map_at (f := doP) hdx
  simp (maxSteps := 1000000) only [VL,VM,↓VG,reduceIte,reduceCtorEq,zA,zB,zC,zD,zE,zF,zG,zH,zI,zJ]
  ((repeat refine Ws ?_);refine Wf (by first|rfl|simp only [EV,zF,reduceIte]) ?_)
  ((repeat refine Ws ?_);refine Wr ?_)
  by_cases b3 : 0 ≤ d.a ∧ 0 ≤ d.b
  ·have ka : (d.a = -1) = False := eq_false (by omega)
   have kb : (d.b = -1) = False := eq_false (by omega)
   rw [if_pos b3] at e2
   rw [e2] at hst
   simp (maxSteps := 1000000) only [VL,VM,↓VG,reduceIte,reduceCtorEq,zA,zB,zC,zD,zE,zF,zG,zH,zI,zJ, hh, hd0, hdx', ka, kb]
   ((repeat refine Ws ?_);refine Wt (by first|rfl|simp only [EV,zF,reduceIte]) ?_)
   ((repeat refine Ws ?_);refine Wr ?_)
   simp (maxSteps := 1000000) only [VL,VM,↓VG,reduceIte,reduceCtorEq,zA,zB,zC,zD,zE,zF,zG,zH,zI,zJ]
   (repeat refine Ws ?_)
   refine W_ret ?_
   try simp only [thenQ, blockQ]
   refine hret _ _ _ (hen _) rfl ?_
   rw [e1, hst]; rfl
  rw [if_neg b3] at e2
  by_cases ea : d.a = -1
  ·have ka : (d.a = -1) = True := eq_true ea
   simp (maxSteps := 1000000) only [VL,VM,↓VG,reduceIte,reduceCtorEq,zA,zB,zC,zD,zE,zF,zG,zH,zI,zJ, hh, hd0, hdx', ka]
   ((repeat refine Ws ?_);refine Wf (by first|rfl|simp only [EV,zF,reduceIte]) ?_)
   ((repeat refine Ws ?_);refine Wr ?_)
   have hlk := hes c
   cases b4 : (h.counts.take i).any (sameKey c)
   rotate_left
   ·rw [b4] at hlk e2
    rw [e2] at hst
    rw [if_pos rfl] at hlk
    simp (maxSteps := 1000000) only [VL,VM,↓VG,reduceIte,reduceCtorEq,zA,zB,zC,zD,zE,zF,zG,zH,zI,zJ, hlk]
    ((repeat refine Ws ?_);refine Wt (by first|rfl|simp only [EV,zF,reduceIte]) ?_)
    ((repeat refine Ws ?_);refine Wr ?_)
    simp (maxSteps := 1000000) only [VL,VM,↓VG,reduceIte,reduceCtorEq,zA,zB,zC,zD,zE,zF,zG,zH,zI,zJ]
    (repeat refine Ws ?_)
    refine W_ret ?_
    try simp only [thenQ, blockQ]
    refine hret _ _ _ (hen _) rfl ?_
    rw [e1, hst]; rfl
   rw [b4] at hlk e2
   rw [if_neg (by decide)] at hlk e2
   simp (maxSteps := 1000000) only [VL,VM,↓VG,reduceIte,reduceCtorEq,zA,zB,zC,zD,zE,zF,zG,zH,zI,zJ, hlk]
   ((repeat refine Ws ?_);refine Wf (by first|rfl|simp only [EV,zF,reduceIte]) ?_)
   ((repeat refine Ws ?_);refine W_skip ?_)
   simp (maxSteps := 1000000) only [VL,VM,↓VG,reduceIte,reduceCtorEq,zA,zB,zC,zD,zE,zF,zG,zH,zI,zJ]
   ((repeat refine Ws ?_);refine Wr ?_)
   simp (maxSteps := 1000000) only [VL,VM,↓VG,reduceIte,reduceCtorEq,zA,zB,zC,zD,zE,zF,zG,zH,zI,zJ]
   ((repeat refine Ws ?_);refine Wr ?_)
   simp (maxSteps := 1000000) only [VL,VM,↓VG,reduceIte,reduceCtorEq,zA,zB,zC,zD,zE,zF,zG,zH,zI,zJ]
   apply call_eq (f := 20) (fn := Tryd.f20) (by kernel_rfl) (by rfl)
   ·exact span_v c.i _
   simp (maxSteps := 1000000) only [VL,VM,↓VG,reduceIte,reduceCtorEq,zA,zB,zC,zD,zE,zF,zG,zH,zI,zJ]
   ((repeat refine Ws ?_);refine Wr ?_)
   by_cases b5 : spErr c.i = 0
   rotate_left
   ·rw [if_neg b5] at e2
    rw [e2, if_neg b5] at hst
    simp (maxSteps := 1000000) only [VL,VM,↓VG,reduceIte,reduceCtorEq,zA,zB,zC,zD,zE,zF,zG,zH,zI,zJ, b5]
    ((repeat refine Ws ?_);refine Wt (by first|rfl|simp only [EV,zF,reduceIte]) ?_)
    ((repeat refine Ws ?_);refine Wr ?_)
    simp (maxSteps := 1000000) only [VL,VM,↓VG,reduceIte,reduceCtorEq,zA,zB,zC,zD,zE,zF,zG,zH,zI,zJ]
    (repeat refine Ws ?_)
    refine W_ret ?_
    try simp only [thenQ, blockQ]
    refine hret _ _ _ (hen _) rfl ?_
    rw [e1, hst]
   rw [if_pos b5] at e2
   simp (maxSteps := 1000000) only [VL,VM,↓VG,reduceIte,reduceCtorEq,zA,zB,zC,zD,zE,zF,zG,zH,zI,zJ, b5]
   ((repeat refine Ws ?_);refine Wf (by first|rfl|simp only [EV,zF,reduceIte]) ?_)
   ((repeat refine Ws ?_);refine W_skip ?_)
   simp (maxSteps := 1000000) only [VL,VM,↓VG,reduceIte,reduceCtorEq,zA,zB,zC,zD,zE,zF,zG,zH,zI,zJ]
   ((repeat refine Ws ?_);refine Wr ?_)
   simp (maxSteps := 1000000) only [VL,VM,↓VG,reduceIte,reduceCtorEq,zA,zB,zC,zD,zE,zF,zG,zH,zI,zJ]
   apply call_eq (f := 20) (fn := Tryd.f20) (by kernel_rfl) (by rfl)
   ·exact span_v c.o _
   simp (maxSteps := 1000000) only [VL,VM,↓VG,reduceIte,reduceCtorEq,zA,zB,zC,zD,zE,zF,zG,zH,zI,zJ]
   ((repeat refine Ws ?_);refine Wr ?_)
   by_cases b6 : spErr c.o = 0
   rotate_left
   ·rw [e2, if_neg b6] at hst
    simp (maxSteps := 1000000) only [VL,VM,↓VG,reduceIte,reduceCtorEq,zA,zB,zC,zD,zE,zF,zG,zH,zI,zJ, b6]
    ((repeat refine Ws ?_);refine Wt (by first|rfl|simp only [EV,zF,reduceIte]) ?_)
    ((repeat refine Ws ?_);refine Wr ?_)
    simp (maxSteps := 1000000) only [VL,VM,↓VG,reduceIte,reduceCtorEq,zA,zB,zC,zD,zE,zF,zG,zH,zI,zJ]
    (repeat refine Ws ?_)
    refine W_ret ?_
    try simp only [thenQ, blockQ]
    refine hret _ _ _ (hen _) rfl ?_
    rw [e1, hst]
   rw [e2, if_pos b6] at hst
   simp (maxSteps := 1000000) only [VL,VM,↓VG,reduceIte,reduceCtorEq,zA,zB,zC,zD,zE,zF,zG,zH,zI,zJ, b6]
   ((repeat refine Ws ?_);refine Wf (by first|rfl|simp only [EV,zF,reduceIte]) ?_)
   ((repeat refine Ws ?_);refine W_skip ?_)
   simp (maxSteps := 1000000) only [VL,VM,↓VG,reduceIte,reduceCtorEq,zA,zB,zC,zD,zE,zF,zG,zH,zI,zJ]
   ((repeat refine Ws ?_);refine Wr ?_)
   simp (maxSteps := 1000000) only [VL,VM,↓VG,reduceIte,reduceCtorEq,zA,zB,zC,zD,zE,zF,zG,zH,zI,zJ, k1]
   refine LoopK.mk ⟨i + 1, assocSet [c.tick, c.door] (vb true) es, _⟩ (by simp only; omega) ⟨by simp only; omega, hst, fun c' => ?_⟩ ⟨rfl, rfl, rfl, rfl, rfl, rfl, trivial⟩ rfl
   simp only
   rw [assoc_set, hes c', any_take _ _ _ _ hx]
   by_cases q : c.tick = c'.tick ∧ c.door = c'.door
   ·rw [if_pos (by rw [q.1, q.2])]
    simp [sameKey, q.1, q.2]
   ·rw [if_neg (by simpa using q)]
    have q2 : sameKey c' c = false := by
     unfold sameKey
     rw [← Bool.not_eq_true, Bool.and_eq_true, decide_eq_true_eq, decide_eq_true_eq]
     exact q
    rw [q2, Bool.or_false]
  ·have ka : (d.a = -1) = False := eq_false ea
   have kb : (d.b = -1) = True := eq_true (by omega)
   simp (maxSteps := 1000000) only [VL,VM,↓VG,reduceIte,reduceCtorEq,zA,zB,zC,zD,zE,zF,zG,zH,zI,zJ, hh, hd0, hdx', ka, kb]
   ((repeat refine Ws ?_);refine Wf (by first|rfl|simp only [EV,zF,reduceIte]) ?_)
   ((repeat refine Ws ?_);refine Wr ?_)
   have hlk := hes c
   cases b4 : (h.counts.take i).any (sameKey c)
   rotate_left
   ·rw [b4] at hlk e2
    rw [e2] at hst
    rw [if_pos rfl] at hlk
    simp (maxSteps := 1000000) only [VL,VM,↓VG,reduceIte,reduceCtorEq,zA,zB,zC,zD,zE,zF,zG,zH,zI,zJ, hlk]
    ((repeat refine Ws ?_);refine Wt (by first|rfl|simp only [EV,zF,reduceIte]) ?_)
    ((repeat refine Ws ?_);refine Wr ?_)
    simp (maxSteps := 1000000) only [VL,VM,↓VG,reduceIte,reduceCtorEq,zA,zB,zC,zD,zE,zF,zG,zH,zI,zJ]
    (repeat refine Ws ?_)
    refine W_ret ?_
    try simp only [thenQ, blockQ]
    refine hret _ _ _ (hen _) rfl ?_
    rw [e1, hst]; rfl
   rw [b4] at hlk e2
   rw [if_neg (by decide)] at hlk e2
   simp (maxSteps := 1000000) only [VL,VM,↓VG,reduceIte,reduceCtorEq,zA,zB,zC,zD,zE,zF,zG,zH,zI,zJ, hlk]
   ((repeat refine Ws ?_);refine Wf (by first|rfl|simp only [EV,zF,reduceIte]) ?_)
   ((repeat refine Ws ?_);refine W_skip ?_)
   simp (maxSteps := 1000000) only [VL,VM,↓VG,reduceIte,reduceCtorEq,zA,zB,zC,zD,zE,zF,zG,zH,zI,zJ]
   ((repeat refine Ws ?_);refine Wr ?_)
   simp (maxSteps := 1000000) only [VL,VM,↓VG,reduceIte,reduceCtorEq,zA,zB,zC,zD,zE,zF,zG,zH,zI,zJ]
   ((repeat refine Ws ?_);refine Wr ?_)
   simp (maxSteps := 1000000) only [VL,VM,↓VG,reduceIte,reduceCtorEq,zA,zB,zC,zD,zE,zF,zG,zH,zI,zJ]
   apply call_eq (f := 20) (fn := Tryd.f20) (by kernel_rfl) (by rfl)
   ·exact span_v c.i _
   simp (maxSteps := 1000000) only [VL,VM,↓VG,reduceIte,reduceCtorEq,zA,zB,zC,zD,zE,zF,zG,zH,zI,zJ]
   ((repeat refine Ws ?_);refine Wr ?_)
   by_cases b5 : spErr c.i = 0
   rotate_left
   ·rw [if_neg b5] at e2
    rw [e2, if_neg b5] at hst
    simp (maxSteps := 1000000) only [VL,VM,↓VG,reduceIte,reduceCtorEq,zA,zB,zC,zD,zE,zF,zG,zH,zI,zJ, b5]
    ((repeat refine Ws ?_);refine Wt (by first|rfl|simp only [EV,zF,reduceIte]) ?_)
    ((repeat refine Ws ?_);refine Wr ?_)
    simp (maxSteps := 1000000) only [VL,VM,↓VG,reduceIte,reduceCtorEq,zA,zB,zC,zD,zE,zF,zG,zH,zI,zJ]
    (repeat refine Ws ?_)
    refine W_ret ?_
    try simp only [thenQ, blockQ]
    refine hret _ _ _ (hen _) rfl ?_
    rw [e1, hst]
   rw [if_pos b5] at e2
   simp (maxSteps := 1000000) only [VL,VM,↓VG,reduceIte,reduceCtorEq,zA,zB,zC,zD,zE,zF,zG,zH,zI,zJ, b5]
   ((repeat refine Ws ?_);refine Wf (by first|rfl|simp only [EV,zF,reduceIte]) ?_)
   ((repeat refine Ws ?_);refine W_skip ?_)
   simp (maxSteps := 1000000) only [VL,VM,↓VG,reduceIte,reduceCtorEq,zA,zB,zC,zD,zE,zF,zG,zH,zI,zJ]
   ((repeat refine Ws ?_);refine Wr ?_)
   simp (maxSteps := 1000000) only [VL,VM,↓VG,reduceIte,reduceCtorEq,zA,zB,zC,zD,zE,zF,zG,zH,zI,zJ]
   apply call_eq (f := 20) (fn := Tryd.f20) (by kernel_rfl) (by rfl)
   ·exact span_v c.o _
   simp (maxSteps := 1000000) only [VL,VM,↓VG,reduceIte,reduceCtorEq,zA,zB,zC,zD,zE,zF,zG,zH,zI,zJ]
   ((repeat refine Ws ?_);refine Wr ?_)
   by_cases b6 : spErr c.o = 0
   rotate_left
   ·rw [e2, if_neg b6] at hst
    simp (maxSteps := 1000000) only [VL,VM,↓VG,reduceIte,reduceCtorEq,zA,zB,zC,zD,zE,zF,zG,zH,zI,zJ, b6]
    ((repeat refine Ws ?_);refine Wt (by first|rfl|simp only [EV,zF,reduceIte]) ?_)
    ((repeat refine Ws ?_);refine Wr ?_)
    simp (maxSteps := 1000000) only [VL,VM,↓VG,reduceIte,reduceCtorEq,zA,zB,zC,zD,zE,zF,zG,zH,zI,zJ]
    (repeat refine Ws ?_)
    refine W_ret ?_
    try simp only [thenQ, blockQ]
    refine hret _ _ _ (hen _) rfl ?_
    rw [e1, hst]
   rw [e2, if_pos b6] at hst
   simp (maxSteps := 1000000) only [VL,VM,↓VG,reduceIte,reduceCtorEq,zA,zB,zC,zD,zE,zF,zG,zH,zI,zJ, b6]
   ((repeat refine Ws ?_);refine Wf (by first|rfl|simp only [EV,zF,reduceIte]) ?_)
   ((repeat refine Ws ?_);refine W_skip ?_)
   simp (maxSteps := 1000000) only [VL,VM,↓VG,reduceIte,reduceCtorEq,zA,zB,zC,zD,zE,zF,zG,zH,zI,zJ]
   ((repeat refine Ws ?_);refine Wr ?_)
   simp (maxSteps := 1000000) only [VL,VM,↓VG,reduceIte,reduceCtorEq,zA,zB,zC,zD,zE,zF,zG,zH,zI,zJ, k1]
   refine LoopK.mk ⟨i + 1, assocSet [c.tick, c.door] (vb true) es, _⟩ (by simp only; omega) ⟨by simp only; omega, hst, fun c' => ?_⟩ ⟨rfl, rfl, rfl, rfl, rfl, rfl, trivial⟩ rfl
   simp only
   rw [assoc_set, hes c', any_take _ _ _ _ hx]
   by_cases q : c.tick = c'.tick ∧ c.door = c'.door
   ·rw [if_pos (by rw [q.1, q.2])]
    simp [sameKey, q.1, q.2]
   ·rw [if_neg (by simpa using q)]
    have q2 : sameKey c' c = false := by
     unfold sameKey
     rw [← Bool.not_eq_true, Bool.and_eq_true, decide_eq_true_eq, decide_eq_true_eq]
     exact q
    rw [q2, Bool.or_false]
 have k2 : ((i : Int) < (h.counts.length : Int)) = False := eq_false (by omega)
 obtain rfl : i = h.counts.length := by omega
 rw [List.drop_length, cosErr] at hce
 simp (maxSteps := 1000000) only [VL,VM,↓VG,reduceIte,reduceCtorEq,zA,zB,zC,zD,zE,zF,zG,zH,zI,zJ, k2]
 ((repeat refine Ws ?_);refine Wf (by first|rfl|simp only [EV,zF,reduceIte]) ?_)
 ((repeat refine Ws ?_);refine W_exit ?_)
 simp (maxSteps := 1000000) only [VL,VM,↓VG,reduceIte,reduceCtorEq,zA,zB,zC,zD,zE,zF,zG,zH,zI,zJ]
 ((repeat refine Ws ?_);refine Wr ?_)
 simp (maxSteps := 1000000) only [VL,VM,↓VG,reduceIte,reduceCtorEq,zA,zB,zC,zD,zE,zF,zG,zH,zI,zJ]
 (repeat refine Ws ?_)
 refine W_ret ?_
 try simp only [thenQ, blockQ]
 refine hret _ _ _ (hen _) rfl ?_
 rw [e1, hce]
end Go.Proofs.YtekhddlngbppkaaDoor.Vm
