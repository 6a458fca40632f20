/- A part of the proofs about the chapter of the vaults; it states no condition of its own. -/
import Derived.Test.YtominlgikchnmaaGreatDoorB18
import Derived.Test.YtominlgikchnmaaGreatDoorB31
set_option linter.unusedVariables false
set_option linter.unusedSimpArgs false
open Int renaming reduceLE → zA, reduceLT → zB, reduceToNat → zC, reduceNeg → zD
open Nat renaming reduceLT → zE, reduceEqDiff → zF, reduceAdd → zG, reduceSub → zH, reduceMul → zI, reduceLeDiff → zJ
/- The program's timely, on values. (Vm) -/
namespace Go.Proofs.YtominlgikchnmaaGreatDoor.Vm
open Go Go.Proofs
theorem litHall : (⟨#[104, 97, 108, 108]⟩ : ByteArray) = tx wHall := rfl
theorem litWater : (⟨#[119, 97, 116, 101, 114]⟩ : ByteArray) = tx wWater := rfl
theorem litShut : (⟨#[115, 104, 117, 116]⟩ : ByteArray) = tx wShut := rfl
theorem litBears : (⟨#[98, 101, 97, 114, 115]⟩ : ByteArray) = tx wBears := rfl
theorem litKind : (⟨#[107, 105, 110, 100]⟩ : ByteArray) = tx wKind := rfl
theorem litEnd : (⟨#[101, 110, 100]⟩ : ByteArray) = tx wEnd := rfl
theorem ne21 : wShut ≠ wWater := by decide
theorem ne31 : wBears ≠ wWater := by decide
theorem ne32 : wBears ≠ wShut := by decide
def timelyB (h : Ha) (w : By) : Bool :=
 if w = wWater then decide (h.shut.length = 0) && (decide (h.bears.length = 0) && decide (h.kinds.length = 0))
 else if w = wShut then decide (h.bears.length = 0) && decide (h.kinds.length = 0)
 else if w = wBears then decide (h.kinds.length = 0) else true
set_option maxHeartbeats 4000000 in
theorem timely_v (h : Ha) (w : By) (M : Mem) : VC Tryz.prog 70 [hallV h, vs w] M (fun r M' => M' = M ∧ r = vb (timelyB h w)) := by
 refine VC_own' T_ok (f := 70) (fn := Tryz.f70) (by kernel_rfl) rfl Tryz.ntmps70 (by rfl) (by rfl) ?_
 ((repeat refine Ws ?_);refine W_regionE T_ok ?_; intro Kn hKn)
 ((simp (maxSteps := 1000000) only [VL,VM,↓VG,reduceIte,reduceCtorEq,zA,zB,zC,zD,zE,zF,zG,zH,zI,zJ]); rw [hKn];clear hKn Kn;simp only [QV,reduceIte,reduceCtorEq,Nat.reduceEqDiff])
 ((repeat refine Ws ?_);refine W_regionE T_ok ?_; intro Kn hKn)
 ((simp (maxSteps := 1000000) only [VL,VM,↓VG,reduceIte,reduceCtorEq,zA,zB,zC,zD,zE,zF,zG,zH,zI,zJ]); rw [hKn];clear hKn Kn;simp only [QV,reduceIte,reduceCtorEq,Nat.reduceEqDiff])
 ((repeat refine Ws ?_);refine W_regionE T_ok ?_; intro Kn hKn)
 ((simp (maxSteps := 1000000) only [VL,VM,↓VG,reduceIte,reduceCtorEq,zA,zB,zC,zD,zE,zF,zG,zH,zI,zJ]); rw [hKn];clear hKn Kn;simp only [QV,reduceIte,reduceCtorEq,Nat.reduceEqDiff])
 ((repeat refine Ws ?_);refine W_block ?_)
 ((repeat refine Ws ?_);refine W_block ?_)
 ((repeat refine Ws ?_);refine W_block ?_)
 ((repeat refine Ws ?_);refine W_block ?_)
 by_cases h1 : w = wWater
 ·have k1 : (w = wWater) = True := eq_true h1
  ((repeat refine Ws ?_);refine W_regionE T_ok ?_; intro Kn hKn)
  ((simp (maxSteps := 1000000) only [VL,VM,↓VG,reduceIte,reduceCtorEq,zA,zB,zC,zD,zE,zF,zG,zH,zI,zJ, litWater, v_eqS, k1]); rw [hKn];clear hKn Kn;simp only [QV,reduceIte,reduceCtorEq,Nat.reduceEqDiff])
  ((repeat refine Ws ?_);refine Wt (by first|rfl|simp only [EV,zF,reduceIte]) ?_)
  (((repeat refine Ws ?_);refine W_exit ?_); simp only [QV,reduceIte,reduceCtorEq,Nat.reduceEqDiff])
  by_cases zs : h.shut.length = 0
  ·have es : ((h.shut.length : Int) = 0) = True := eq_true (by omega)
   ((repeat refine Ws ?_);refine W_regionE T_ok ?_; intro Kn hKn)
   ((simp (maxSteps := 1000000) only [VL,VM,↓VG,reduceIte,reduceCtorEq,zA,zB,zC,zD,zE,zF,zG,zH,zI,zJ, es]); rw [hKn];clear hKn Kn;simp only [QV,reduceIte,reduceCtorEq,Nat.reduceEqDiff])
   by_cases zb : h.bears.length = 0
   ·have eb : ((h.bears.length : Int) = 0) = True := eq_true (by omega)
    ((repeat refine Ws ?_);refine W_regionE T_ok ?_; intro Kn hKn)
    ((simp (maxSteps := 1000000) only [VL,VM,↓VG,reduceIte,reduceCtorEq,zA,zB,zC,zD,zE,zF,zG,zH,zI,zJ, eb]); rw [hKn];clear hKn Kn;simp only [QV,reduceIte,reduceCtorEq,Nat.reduceEqDiff])
    by_cases zk : h.kinds.length = 0
    ·have ek : ((h.kinds.length : Int) = 0) = True := eq_true (by omega)
     ((repeat refine Ws ?_);refine W_regionE T_ok ?_; intro Kn hKn)
     ((simp (maxSteps := 1000000) only [VL,VM,↓VG,reduceIte,reduceCtorEq,zA,zB,zC,zD,zE,zF,zG,zH,zI,zJ, ek]); rw [hKn];clear hKn Kn;simp only [QV,reduceIte,reduceCtorEq,Nat.reduceEqDiff])
     (((repeat refine Ws ?_);refine W_exit ?_); simp only [QV,reduceIte,reduceCtorEq,Nat.reduceEqDiff])
     ((repeat refine Ws ?_);refine W_regionE T_ok ?_; intro Kn hKn)
     ((simp (maxSteps := 1000000) only [VL,VM,↓VG,reduceIte,reduceCtorEq,zA,zB,zC,zD,zE,zF,zG,zH,zI,zJ]); rw [hKn];clear hKn Kn;simp only [QV,reduceIte,reduceCtorEq,Nat.reduceEqDiff])
     (repeat refine Ws ?_)
     refine W_ret ?_
     try simp only [thenQ, blockQ]
     refine own_ret1 rfl ?_ (by rfl)
     simp only [get_cons, frz, vtup, Nat.reduceEqDiff, if_true, if_false, reduceIte]
     simp [timelyB, h1, zs, zb, zk]
    ·have ek : ((h.kinds.length : Int) = 0) = False := eq_false (by omega)
     ((repeat refine Ws ?_);refine W_regionE T_ok ?_; intro Kn hKn)
     ((simp (maxSteps := 1000000) only [VL,VM,↓VG,reduceIte,reduceCtorEq,zA,zB,zC,zD,zE,zF,zG,zH,zI,zJ, ek]); rw [hKn];clear hKn Kn;simp only [QV,reduceIte,reduceCtorEq,Nat.reduceEqDiff])
     (((repeat refine Ws ?_);refine W_exit ?_); simp only [QV,reduceIte,reduceCtorEq,Nat.reduceEqDiff])
     ((repeat refine Ws ?_);refine W_regionE T_ok ?_; intro Kn hKn)
     ((simp (maxSteps := 1000000) only [VL,VM,↓VG,reduceIte,reduceCtorEq,zA,zB,zC,zD,zE,zF,zG,zH,zI,zJ]); rw [hKn];clear hKn Kn;simp only [QV,reduceIte,reduceCtorEq,Nat.reduceEqDiff])
     (repeat refine Ws ?_)
     refine W_ret ?_
     try simp only [thenQ, blockQ]
     refine own_ret1 rfl ?_ (by rfl)
     simp only [get_cons, frz, vtup, Nat.reduceEqDiff, if_true, if_false, reduceIte]
     simp [timelyB, h1, zs, zb, zk]
   ·have eb : ((h.bears.length : Int) = 0) = False := eq_false (by omega)
    ((repeat refine Ws ?_);refine W_regionE T_ok ?_; intro Kn hKn)
    ((simp (maxSteps := 1000000) only [VL,VM,↓VG,reduceIte,reduceCtorEq,zA,zB,zC,zD,zE,zF,zG,zH,zI,zJ, eb]); rw [hKn];clear hKn Kn;simp only [QV,reduceIte,reduceCtorEq,Nat.reduceEqDiff])
    ((repeat refine Ws ?_);refine W_regionE T_ok ?_; intro Kn hKn)
    ((simp (maxSteps := 1000000) only [VL,VM,↓VG,reduceIte,reduceCtorEq,zA,zB,zC,zD,zE,zF,zG,zH,zI,zJ]); rw [hKn];clear hKn Kn;simp only [QV,reduceIte,reduceCtorEq,Nat.reduceEqDiff])
    (((repeat refine Ws ?_);refine W_exit ?_); simp only [QV,reduceIte,reduceCtorEq,Nat.reduceEqDiff])
    ((repeat refine Ws ?_);refine W_regionE T_ok ?_; intro Kn hKn)
    ((simp (maxSteps := 1000000) only [VL,VM,↓VG,reduceIte,reduceCtorEq,zA,zB,zC,zD,zE,zF,zG,zH,zI,zJ]); rw [hKn];clear hKn Kn;simp only [QV,reduceIte,reduceCtorEq,Nat.reduceEqDiff])
    (repeat refine Ws ?_)
    refine W_ret ?_
    try simp only [thenQ, blockQ]
    refine own_ret1 rfl ?_ (by rfl)
    simp only [get_cons, frz, vtup, Nat.reduceEqDiff, if_true, if_false, reduceIte]
    simp [timelyB, h1, zs, zb]
  ·have es : ((h.shut.length : Int) = 0) = False := eq_false (by omega)
   ((repeat refine Ws ?_);refine W_regionE T_ok ?_; intro Kn hKn)
   ((simp (maxSteps := 1000000) only [VL,VM,↓VG,reduceIte,reduceCtorEq,zA,zB,zC,zD,zE,zF,zG,zH,zI,zJ, es]); rw [hKn];clear hKn Kn;simp only [QV,reduceIte,reduceCtorEq,Nat.reduceEqDiff])
   ((repeat refine Ws ?_);refine W_regionE T_ok ?_; intro Kn hKn)
   ((simp (maxSteps := 1000000) only [VL,VM,↓VG,reduceIte,reduceCtorEq,zA,zB,zC,zD,zE,zF,zG,zH,zI,zJ]); rw [hKn];clear hKn Kn;simp only [QV,reduceIte,reduceCtorEq,Nat.reduceEqDiff])
   ((repeat refine Ws ?_);refine W_regionE T_ok ?_; intro Kn hKn)
   ((simp (maxSteps := 1000000) only [VL,VM,↓VG,reduceIte,reduceCtorEq,zA,zB,zC,zD,zE,zF,zG,zH,zI,zJ]); rw [hKn];clear hKn Kn;simp only [QV,reduceIte,reduceCtorEq,Nat.reduceEqDiff])
   (((repeat refine Ws ?_);refine W_exit ?_); simp only [QV,reduceIte,reduceCtorEq,Nat.reduceEqDiff])
   ((repeat refine Ws ?_);refine W_regionE T_ok ?_; intro Kn hKn)
   ((simp (maxSteps := 1000000) only [VL,VM,↓VG,reduceIte,reduceCtorEq,zA,zB,zC,zD,zE,zF,zG,zH,zI,zJ]); rw [hKn];clear hKn Kn;simp only [QV,reduceIte,reduceCtorEq,Nat.reduceEqDiff])
   (repeat refine Ws ?_)
   refine W_ret ?_
   try simp only [thenQ, blockQ]
   refine own_ret1 rfl ?_ (by rfl)
   simp only [get_cons, frz, vtup, Nat.reduceEqDiff, if_true, if_false, reduceIte]
   simp [timelyB, h1, zs]
 have k1 : (w = wWater) = False := eq_false h1
 ((repeat refine Ws ?_);refine W_regionE T_ok ?_; intro Kn hKn)
 ((simp (maxSteps := 1000000) only [VL,VM,↓VG,reduceIte,reduceCtorEq,zA,zB,zC,zD,zE,zF,zG,zH,zI,zJ, litWater, v_eqS, k1]); rw [hKn];clear hKn Kn;simp only [QV,reduceIte,reduceCtorEq,Nat.reduceEqDiff])
 ((repeat refine Ws ?_);refine Wf (by first|rfl|simp only [EV,zF,reduceIte]) ?_)
 (((repeat refine Ws ?_);refine W_skip ?_); simp only [QV,reduceIte,reduceCtorEq,Nat.reduceEqDiff])
 by_cases h2 : w = wShut
 ·have k2 : (w = wShut) = True := eq_true h2
  ((repeat refine Ws ?_);refine W_regionE T_ok ?_; intro Kn hKn)
  ((simp (maxSteps := 1000000) only [VL,VM,↓VG,reduceIte,reduceCtorEq,zA,zB,zC,zD,zE,zF,zG,zH,zI,zJ, litShut, v_eqS, k2]); rw [hKn];clear hKn Kn;simp only [QV,reduceIte,reduceCtorEq,Nat.reduceEqDiff])
  ((repeat refine Ws ?_);refine Wt (by first|rfl|simp only [EV,zF,reduceIte]) ?_)
  (((repeat refine Ws ?_);refine W_exit ?_); simp only [QV,reduceIte,reduceCtorEq,Nat.reduceEqDiff])
  by_cases zb : h.bears.length = 0
  ·have eb : ((h.bears.length : Int) = 0) = True := eq_true (by omega)
   ((repeat refine Ws ?_);refine W_regionE T_ok ?_; intro Kn hKn)
   ((simp (maxSteps := 1000000) only [VL,VM,↓VG,reduceIte,reduceCtorEq,zA,zB,zC,zD,zE,zF,zG,zH,zI,zJ, eb]); rw [hKn];clear hKn Kn;simp only [QV,reduceIte,reduceCtorEq,Nat.reduceEqDiff])
   by_cases zk : h.kinds.length = 0
   ·have ek : ((h.kinds.length : Int) = 0) = True := eq_true (by omega)
    ((repeat refine Ws ?_);refine W_regionE T_ok ?_; intro Kn hKn)
    ((simp (maxSteps := 1000000) only [VL,VM,↓VG,reduceIte,reduceCtorEq,zA,zB,zC,zD,zE,zF,zG,zH,zI,zJ, ek]); rw [hKn];clear hKn Kn;simp only [QV,reduceIte,reduceCtorEq,Nat.reduceEqDiff])
    (((repeat refine Ws ?_);refine W_exit ?_); simp only [QV,reduceIte,reduceCtorEq,Nat.reduceEqDiff])
    ((repeat refine Ws ?_);refine W_regionE T_ok ?_; intro Kn hKn)
    ((simp (maxSteps := 1000000) only [VL,VM,↓VG,reduceIte,reduceCtorEq,zA,zB,zC,zD,zE,zF,zG,zH,zI,zJ]); rw [hKn];clear hKn Kn;simp only [QV,reduceIte,reduceCtorEq,Nat.reduceEqDiff])
    (repeat refine Ws ?_)
    refine W_ret ?_
    try simp only [thenQ, blockQ]
    refine own_ret1 rfl ?_ (by rfl)
    simp only [get_cons, frz, vtup, Nat.reduceEqDiff, if_true, if_false, reduceIte]
    simp [timelyB, h1, h2, ne21, zb, zk]
   ·have ek : ((h.kinds.length : Int) = 0) = False := eq_false (by omega)
    ((repeat refine Ws ?_);refine W_regionE T_ok ?_; intro Kn hKn)
    ((simp (maxSteps := 1000000) only [VL,VM,↓VG,reduceIte,reduceCtorEq,zA,zB,zC,zD,zE,zF,zG,zH,zI,zJ, ek]); rw [hKn];clear hKn Kn;simp only [QV,reduceIte,reduceCtorEq,Nat.reduceEqDiff])
    (((repeat refine Ws ?_);refine W_exit ?_); simp only [QV,reduceIte,reduceCtorEq,Nat.reduceEqDiff])
    ((repeat refine Ws ?_);refine W_regionE T_ok ?_; intro Kn hKn)
    ((simp (maxSteps := 1000000) only [VL,VM,↓VG,reduceIte,reduceCtorEq,zA,zB,zC,zD,zE,zF,zG,zH,zI,zJ]); rw [hKn];clear hKn Kn;simp only [QV,reduceIte,reduceCtorEq,Nat.reduceEqDiff])
    (repeat refine Ws ?_)
    refine W_ret ?_
    try simp only [thenQ, blockQ]
    refine own_ret1 rfl ?_ (by rfl)
    simp only [get_cons, frz, vtup, Nat.reduceEqDiff, if_true, if_false, reduceIte]
    simp [timelyB, h1, h2, ne21, zb, zk]
  ·have eb : ((h.bears.length : Int) = 0) = False := eq_false (by omega)
   ((repeat refine Ws ?_);refine W_regionE T_ok ?_; intro Kn hKn)
   ((simp (maxSteps := 1000000) only [VL,VM,↓VG,reduceIte,reduceCtorEq,zA,zB,zC,zD,zE,zF,zG,zH,zI,zJ, eb]); rw [hKn];clear hKn Kn;simp only [QV,reduceIte,reduceCtorEq,Nat.reduceEqDiff])
   ((repeat refine Ws ?_);refine W_regionE T_ok ?_; intro Kn hKn)
   ((simp (maxSteps := 1000000) only [VL,VM,↓VG,reduceIte,reduceCtorEq,zA,zB,zC,zD,zE,zF,zG,zH,zI,zJ]); rw [hKn];clear hKn Kn;simp only [QV,reduceIte,reduceCtorEq,Nat.reduceEqDiff])
   (((repeat refine Ws ?_);refine W_exit ?_); simp only [QV,reduceIte,reduceCtorEq,Nat.reduceEqDiff])
   ((repeat refine Ws ?_);refine W_regionE T_ok ?_; intro Kn hKn)
   ((simp (maxSteps := 1000000) only [VL,VM,↓VG,reduceIte,reduceCtorEq,zA,zB,zC,zD,zE,zF,zG,zH,zI,zJ]); rw [hKn];clear hKn Kn;simp only [QV,reduceIte,reduceCtorEq,Nat.reduceEqDiff])
   (repeat refine Ws ?_)
   refine W_ret ?_
   try simp only [thenQ, blockQ]
   refine own_ret1 rfl ?_ (by rfl)
   simp only [get_cons, frz, vtup, Nat.reduceEqDiff, if_true, if_false, reduceIte]
   simp [timelyB, h1, h2, ne21, zb]
 have k2 : (w = wShut) = False := eq_false h2
 ((repeat refine Ws ?_);refine W_regionE T_ok ?_; intro Kn hKn)
 ((simp (maxSteps := 1000000) only [VL,VM,↓VG,reduceIte,reduceCtorEq,zA,zB,zC,zD,zE,zF,zG,zH,zI,zJ, litShut, v_eqS, k2]); rw [hKn];clear hKn Kn;simp only [QV,reduceIte,reduceCtorEq,Nat.reduceEqDiff])
 ((repeat refine Ws ?_);refine Wf (by first|rfl|simp only [EV,zF,reduceIte]) ?_)
 (((repeat refine Ws ?_);refine W_skip ?_); simp only [QV,reduceIte,reduceCtorEq,Nat.reduceEqDiff])
 by_cases h3 : w = wBears
 ·have k3 : (w = wBears) = True := eq_true h3
  ((repeat refine Ws ?_);refine W_regionE T_ok ?_; intro Kn hKn)
  ((simp (maxSteps := 1000000) only [VL,VM,↓VG,reduceIte,reduceCtorEq,zA,zB,zC,zD,zE,zF,zG,zH,zI,zJ, litBears, v_eqS, k3]); rw [hKn];clear hKn Kn;simp only [QV,reduceIte,reduceCtorEq,Nat.reduceEqDiff])
  ((repeat refine Ws ?_);refine Wt (by first|rfl|simp only [EV,zF,reduceIte]) ?_)
  (((repeat refine Ws ?_);refine W_exit ?_); simp only [QV,reduceIte,reduceCtorEq,Nat.reduceEqDiff])
  by_cases zk : h.kinds.length = 0
  ·have ek : ((h.kinds.length : Int) = 0) = True := eq_true (by omega)
   ((repeat refine Ws ?_);refine W_regionE T_ok ?_; intro Kn hKn)
   ((simp (maxSteps := 1000000) only [VL,VM,↓VG,reduceIte,reduceCtorEq,zA,zB,zC,zD,zE,zF,zG,zH,zI,zJ, ek]); rw [hKn];clear hKn Kn;simp only [QV,reduceIte,reduceCtorEq,Nat.reduceEqDiff])
   (((repeat refine Ws ?_);refine W_exit ?_); simp only [QV,reduceIte,reduceCtorEq,Nat.reduceEqDiff])
   ((repeat refine Ws ?_);refine W_regionE T_ok ?_; intro Kn hKn)
   ((simp (maxSteps := 1000000) only [VL,VM,↓VG,reduceIte,reduceCtorEq,zA,zB,zC,zD,zE,zF,zG,zH,zI,zJ]); rw [hKn];clear hKn Kn;simp only [QV,reduceIte,reduceCtorEq,Nat.reduceEqDiff])
   (repeat refine Ws ?_)
   refine W_ret ?_
   try simp only [thenQ, blockQ]
   refine own_ret1 rfl ?_ (by rfl)
   simp only [get_cons, frz, vtup, Nat.reduceEqDiff, if_true, if_false, reduceIte]
   simp [timelyB, h1, h2, h3, ne31, ne32, zk]
  ·have ek : ((h.kinds.length : Int) = 0) = False := eq_false (by omega)
   ((repeat refine Ws ?_);refine W_regionE T_ok ?_; intro Kn hKn)
   ((simp (maxSteps := 1000000) only [VL,VM,↓VG,reduceIte,reduceCtorEq,zA,zB,zC,zD,zE,zF,zG,zH,zI,zJ, ek]); rw [hKn];clear hKn Kn;simp only [QV,reduceIte,reduceCtorEq,Nat.reduceEqDiff])
   (((repeat refine Ws ?_);refine W_exit ?_); simp only [QV,reduceIte,reduceCtorEq,Nat.reduceEqDiff])
   ((repeat refine Ws ?_);refine W_regionE T_ok ?_; intro Kn hKn)
   ((simp (maxSteps := 1000000) only [VL,VM,↓VG,reduceIte,reduceCtorEq,zA,zB,zC,zD,zE,zF,zG,zH,zI,zJ]); rw [hKn];clear hKn Kn;simp only [QV,reduceIte,reduceCtorEq,Nat.reduceEqDiff])
   (repeat refine Ws ?_)
   refine W_ret ?_
   try simp only [thenQ, blockQ]
   refine own_ret1 rfl ?_ (by rfl)
   simp only [get_cons, frz, vtup, Nat.reduceEqDiff, if_true, if_false, reduceIte]
   simp [timelyB, h1, h2, h3, ne31, ne32, zk]
 have k3 : (w = wBears) = False := eq_false h3
 ((repeat refine Ws ?_);refine W_regionE T_ok ?_; intro Kn hKn)
 ((simp (maxSteps := 1000000) only [VL,VM,↓VG,reduceIte,reduceCtorEq,zA,zB,zC,zD,zE,zF,zG,zH,zI,zJ, litBears, v_eqS, k3]); rw [hKn];clear hKn Kn;simp only [QV,reduceIte,reduceCtorEq,Nat.reduceEqDiff])
 ((repeat refine Ws ?_);refine Wf (by first|rfl|simp only [EV,zF,reduceIte]) ?_)
 (((repeat refine Ws ?_);refine W_skip ?_); simp only [QV,reduceIte,reduceCtorEq,Nat.reduceEqDiff])
 (((repeat refine Ws ?_);refine W_exit ?_); simp only [QV,reduceIte,reduceCtorEq,Nat.reduceEqDiff])
 ((repeat refine Ws ?_);refine W_regionE T_ok ?_; intro Kn hKn)
 ((simp (maxSteps := 1000000) only [VL,VM,↓VG,reduceIte,reduceCtorEq,zA,zB,zC,zD,zE,zF,zG,zH,zI,zJ]); rw [hKn];clear hKn Kn;simp only [QV,reduceIte,reduceCtorEq,Nat.reduceEqDiff])
 (repeat refine Ws ?_)
 refine W_ret ?_
 try simp only [thenQ, blockQ]
 refine own_ret1 rfl ?_ (by rfl)
 simp only [get_cons, frz, vtup, Nat.reduceEqDiff, if_true, if_false, reduceIte]
 simp [timelyB, h1, h2, h3]
end Go.Proofs.YtominlgikchnmaaGreatDoor.Vm
