/- A part of the proofs about the doors; no condition. -/
import Derived.Test.YtekhddlngbppkaaGreatDoorB18
import Derived.Test.YtekhddlngbppkaaGreatDoorB37
set_option linter.unusedVariables false
set_option linter.unusedSimpArgs false
open Int renaming reduceLE → zA, reduceLT → zB, reduceToNat → zC, reduceNeg → zD
open Nat renaming reduceLT → zE, reduceEqDiff → zF, reduceAdd → zG, reduceSub → zH, reduceMul → zI, reduceLeDiff → zJ
/- The reference's check of houses, and changes, on values. (Vm) -/
namespace Go.Proofs.YtekhddlngbppkaaGreatDoor.Vm
open Go Go.Proofs
theorem any_noT {α:Type} {p:α→Bool} {l:List α} {i:Nat} {x:α} (h:l[i]? = some x) (h0:(l.take i).any p = false) (hp:p x = false):(l.take (i + 1)).any p = false:=by
 rw [any_take p l i x h,h0,hp]; rfl
set_option maxHeartbeats 1000000 in
set_option maxRecDepth 8000 in
theorem count_r (h:Ho) (bs:List Co) (c:Co) (M:Mem) (hld:h.doors.length≤1000000) (hb:bs.length≤1000000) (hT:0≤h.ticks∧h.ticks≤12):VC Tryz.prog 66 [houseV h,cosV bs,coV c] M (fun r M'=>M' = M∧r = vi (coErr h bs c)):=by
 have e1:coErr h bs c = coErr h bs c:=rfl
 conv at e1=>rhs; unfold coErr
 have k3 : -9223372036854775808≤h.ticks - 1∧h.ticks - 1 < 9223372036854775808:=by omega
 have k4 : -9223372036854775808≤(h.doors.length:Int) - 1∧(h.doors.length:Int) - 1 < 9223372036854775808:=by omega
 refine VC_own' T_ok (f := 66) (fn:=Tryz.f66) (by kernel_rfl) rfl Tryz.ntmps66 (by rfl) (by rfl) ?_
 (repeat refine Ws ?_);refine Wr ?_
 simp(maxSteps:=1000000)only[VL,VM,↓VG,reduceIte,reduceCtorEq,zA,zB,zC,zD,zE,zF,zG,zH,zI,zJ]
 (repeat refine Ws ?_);refine Wr ?_
 simp(maxSteps:=1000000)only[VL,VM,↓VG,reduceIte,reduceCtorEq,zA,zB,zC,zD,zE,zF,zG,zH,zI,zJ,k3]
 apply call_eq (f := 65) (fn:=Tryz.f65) (by kernel_rfl) (by rfl)
 ·exact within_r _ _ _ _
 cases b1:inR c.tick 0 (h.ticks - 1)
 ·rw [b1] at e1
  simp(maxSteps:=1000000)only[VL,VM,↓VG,reduceIte,reduceCtorEq,zA,zB,zC,zD,zE,zF,zG,zH,zI,zJ]
  (repeat refine Ws ?_);refine Wt ?_
  (repeat refine Ws ?_);refine Wr ?_
  simp(maxSteps:=1000000)only[VL,VM,↓VG,reduceIte,reduceCtorEq,zA,zB,zC,zD,zE,zF,zG,zH,zI,zJ]
  (repeat refine Ws ?_)
  refine W_ret ?_
  try simp only [thenQ,blockQ]
  refine own_ret1 rfl ?_ (by rfl)
  simp only [get_cons,frz,vtup,zF,if_true,if_false,reduceIte]
  rw [e1]; rfl
 rw [b1,if_pos rfl] at e1
 simp(maxSteps:=1000000)only[VL,VM,↓VG,reduceIte,reduceCtorEq,zA,zB,zC,zD,zE,zF,zG,zH,zI,zJ]
 (repeat refine Ws ?_);refine Wf ?_
 (repeat refine Ws ?_);refine W_skip ?_
 simp(maxSteps:=1000000)only[VL,VM,↓VG,reduceIte,reduceCtorEq,zA,zB,zC,zD,zE,zF,zG,zH,zI,zJ]
 (repeat refine Ws ?_);refine Wr ?_
 simp(maxSteps:=1000000)only[VL,VM,↓VG,reduceIte,reduceCtorEq,zA,zB,zC,zD,zE,zF,zG,zH,zI,zJ,k4]
 apply call_eq (f := 65) (fn:=Tryz.f65) (by kernel_rfl) (by rfl)
 ·exact within_r _ _ _ _
 cases b2:inR c.door 0 ((h.doors.length:Int) - 1)
 ·rw [b2] at e1
  simp(maxSteps:=1000000)only[VL,VM,↓VG,reduceIte,reduceCtorEq,zA,zB,zC,zD,zE,zF,zG,zH,zI,zJ]
  (repeat refine Ws ?_);refine Wt ?_
  (repeat refine Ws ?_);refine Wr ?_
  simp(maxSteps:=1000000)only[VL,VM,↓VG,reduceIte,reduceCtorEq,zA,zB,zC,zD,zE,zF,zG,zH,zI,zJ]
  (repeat refine Ws ?_)
  refine W_ret ?_
  try simp only [thenQ,blockQ]
  refine own_ret1 rfl ?_ (by rfl)
  simp only [get_cons,frz,vtup,zF,if_true,if_false,reduceIte]
  rw [e1]; rfl
 rw [b2,if_pos rfl] at e1
 have hdr:=inR_true.1 b2
 have hd0:0≤c.door:=hdr.1
 have hdlt:c.door.toNat < h.doors.length:=by omega
 have hdx:h.doors[c.door.toNat]? = some (doAt h c.door):=by
  unfold doAt
  rw [List.getD_eq_getElem?_getD,List.getElem?_eq_getElem hdlt]; rfl
 generalize doAt h c.door = d at hdx e1
 have hdx':=map_at (f:=doP) hdx
 simp(maxSteps:=1000000)only[VL,VM,↓VG,reduceIte,reduceCtorEq,zA,zB,zC,zD,zE,zF,zG,zH,zI,zJ]
 (repeat refine Ws ?_);refine Wf ?_
 (repeat refine Ws ?_);refine W_skip ?_
 simp(maxSteps:=1000000)only[VL,VM,↓VG,reduceIte,reduceCtorEq,zA,zB,zC,zD,zE,zF,zG,zH,zI,zJ]
 (repeat refine Ws ?_);refine Wr ?_
 by_cases b3:0≤d.a∧0≤d.b
 ·have ka:(0≤d.a) = True:=eq_true b3.1
  have kb:(0≤d.b) = True:=eq_true b3.2
  rw [if_pos b3] at e1
  simp(maxSteps:=1000000)only[VL,VM,↓VG,reduceIte,reduceCtorEq,zA,zB,zC,zD,zE,zF,zG,zH,zI,zJ,hd0,hdx',ka,kb]
  (repeat refine Ws ?_);refine Wt ?_
  (repeat refine Ws ?_);refine Wr ?_
  simp(maxSteps:=1000000)only[VL,VM,↓VG,reduceIte,reduceCtorEq,zA,zB,zC,zD,zE,zF,zG,zH,zI,zJ]
  (repeat refine Ws ?_)
  refine W_ret ?_
  try simp only [thenQ,blockQ]
  refine own_ret1 rfl ?_ (by rfl)
  simp only [get_cons,frz,vtup,zF,if_true,if_false,reduceIte]
  rw [e1]
 rw [if_neg b3] at e1
 by_cases ea:0≤d.a
 ·have ka:(0≤d.a) = True:=eq_true ea
  have kb:(0≤d.b) = False:=eq_false (fun q=>b3 ⟨ea,q⟩)
  simp(maxSteps:=1000000)only[VL,VM,↓VG,reduceIte,reduceCtorEq,zA,zB,zC,zD,zE,zF,zG,zH,zI,zJ,hd0,hdx',ka,kb]
  (repeat refine Ws ?_);refine Wf ?_
  (repeat refine Ws ?_);refine W_skip ?_
  simp(maxSteps:=1000000)only[VL,VM,↓VG,reduceIte,reduceCtorEq,zA,zB,zC,zD,zE,zF,zG,zH,zI,zJ]
  (repeat refine Ws ?_);refine Wr ?_
  simp(maxSteps:=1000000)only[VL,VM,↓VG,reduceIte,reduceCtorEq,zA,zB,zC,zD,zE,zF,zG,zH,zI,zJ]
  ((repeat refine Ws ?_);refine W_block ?_; (repeat refine Ws ?_)); refine W_loopS (fun i:Nat=>[(0,houseV h),(1,cosV bs),(2,coV c),(3,.ptr M.H.length 0),(5,.ptr (M.H.length + 1) 0),(7,vi i)]) (fun _=>⟨M.H++[.obj (houseC h),.obj [vi c.tick,vi c.door,vi c.i.lo,vi c.i.hi,vi c.o.lo,vi c.o.hi]],M.lg⟩) (fun i=>bs.length - i) (fun i=>i≤bs.length∧(bs.take i).any (sameKey c) = false) 0 ⟨Nat.zero_le _,rfl⟩ ⟨rfl,rfl,rfl,rfl,rfl,rfl,trivial⟩ rfl ?_
  rintro i ⟨hi,hno⟩
  have k1 : -9223372036854775808≤(i:Int) + 1∧(i:Int) + 1 < 9223372036854775808:=by omega
  (repeat refine Ws ?_);refine Wr ?_
  rcases Nat.lt_or_ge i bs.length with hlt | hge
  ·have k2:((i:Int) < (bs.length:Int)) = True:=eq_true (by omega)
   have hx:bs[i]? = some bs[i]:=List.getElem?_eq_getElem hlt
   generalize bs[i] = b at hx
   have hx':=map_at (f:=coP) hx
   simp(maxSteps:=1000000)only[VL,VM,↓VG,reduceIte,reduceCtorEq,zA,zB,zC,zD,zE,zF,zG,zH,zI,zJ,k2]
   (repeat refine Ws ?_);refine Wt ?_
   (repeat refine Ws ?_);refine W_skip ?_
   simp(maxSteps:=1000000)only[VL,VM,↓VG,reduceIte,reduceCtorEq,zA,zB,zC,zD,zE,zF,zG,zH,zI,zJ]
   (repeat refine Ws ?_);refine W_block ?_
   (repeat refine Ws ?_)
   refine W_drawP T_ok [] (by kernel_rfl) (by kernel_rfl) ?_
   generalize hi:mkPlan _ = infs
   cbv at hi
   subst hi
   by_cases t1:b.tick = c.tick
   ·have q1:(b.tick = c.tick) = True:=eq_true t1
    by_cases t2:b.door = c.door
    ·have q2:(b.door = c.door) = True:=eq_true t2
     have hany:bs.any (sameKey c) = true:=any_hit _ _ _ _ hx (by simp [sameKey,t1,t2])
     rw [hany,if_pos rfl] at e1
     simp(maxSteps:=1000000)only[VL,VM,↓VG,reduceIte,reduceCtorEq,zA,zB,zC,zD,zE,zF,zG,zH,zI,zJ,hx',q1,q2]
     (repeat refine Ws ?_);refine Wt ?_
     (repeat refine Ws ?_);refine Wr ?_
     simp(maxSteps:=1000000)only[VL,VM,↓VG,reduceIte,reduceCtorEq,zA,zB,zC,zD,zE,zF,zG,zH,zI,zJ]
     (repeat refine Ws ?_)
     refine W_ret ?_
     try simp only [thenQ,blockQ]
     refine own_ret1 rfl ?_ (by rfl)
     simp only [get_cons,frz,vtup,zF,if_true,if_false,reduceIte]
     rw [e1]
    have q2:(b.door = c.door) = False:=eq_false t2
    simp(maxSteps:=1000000)only[VL,VM,↓VG,reduceIte,reduceCtorEq,zA,zB,zC,zD,zE,zF,zG,zH,zI,zJ,hx',q1,q2]
    (repeat refine Ws ?_);refine Wf ?_
    (repeat refine Ws ?_);refine W_skip ?_
    simp(maxSteps:=1000000)only[VL,VM,↓VG,reduceIte,reduceCtorEq,zA,zB,zC,zD,zE,zF,zG,zH,zI,zJ]
    (repeat refine Ws ?_);refine Wr ?_
    simp(maxSteps:=1000000)only[VL,VM,↓VG,reduceIte,reduceCtorEq,zA,zB,zC,zD,zE,zF,zG,zH,zI,zJ,k1]
    refine LoopK.mk (i + 1) (by omega) ⟨by omega,any_noT hx hno (by simp [sameKey,t2])⟩ ⟨rfl,rfl,rfl,rfl,rfl,rfl,trivial⟩ rfl
   have q1:(b.tick = c.tick) = False:=eq_false t1
   simp(maxSteps:=1000000)only[VL,VM,↓VG,reduceIte,reduceCtorEq,zA,zB,zC,zD,zE,zF,zG,zH,zI,zJ,hx',q1]
   (repeat refine Ws ?_);refine Wf ?_
   (repeat refine Ws ?_);refine W_skip ?_
   simp(maxSteps:=1000000)only[VL,VM,↓VG,reduceIte,reduceCtorEq,zA,zB,zC,zD,zE,zF,zG,zH,zI,zJ]
   (repeat refine Ws ?_);refine Wr ?_
   simp(maxSteps:=1000000)only[VL,VM,↓VG,reduceIte,reduceCtorEq,zA,zB,zC,zD,zE,zF,zG,zH,zI,zJ,k1]
   refine LoopK.mk (i + 1) (by omega) ⟨by omega,any_noT hx hno (by simp [sameKey,t1])⟩ ⟨rfl,rfl,rfl,rfl,rfl,rfl,trivial⟩ rfl
  have k2:((i:Int) < (bs.length:Int)) = False:=eq_false (by omega)
  have hi3:i = bs.length:=by omega
  subst hi3
  rw [List.take_length] at hno
  rw [hno,if_neg (by decide)] at e1
  simp(maxSteps:=1000000)only[VL,VM,↓VG,reduceIte,reduceCtorEq,zA,zB,zC,zD,zE,zF,zG,zH,zI,zJ,k2]
  (repeat refine Ws ?_);refine Wf ?_
  (repeat refine Ws ?_);refine W_exit ?_
  simp(maxSteps:=1000000)only[VL,VM,↓VG,reduceIte,reduceCtorEq,zA,zB,zC,zD,zE,zF,zG,zH,zI,zJ]
  (repeat refine Ws ?_);refine Wr ?_
  simp(maxSteps:=1000000)only[VL,VM,↓VG,reduceIte,reduceCtorEq,zA,zB,zC,zD,zE,zF,zG,zH,zI,zJ]
  apply call_eq (f := 64) (fn:=Tryz.f64) (by kernel_rfl) (by rfl)
  ·exact span_r c.i _
  simp(maxSteps:=1000000)only[VL,VM,↓VG,reduceIte,reduceCtorEq,zA,zB,zC,zD,zE,zF,zG,zH,zI,zJ]
  (repeat refine Ws ?_);refine Wr ?_
  by_cases b5:spErr c.i = 0
  rotate_left
  ·rw [if_neg b5] at e1
   simp(maxSteps:=1000000)only[VL,VM,↓VG,reduceIte,reduceCtorEq,zA,zB,zC,zD,zE,zF,zG,zH,zI,zJ,b5]
   (repeat refine Ws ?_);refine Wt ?_
   (repeat refine Ws ?_);refine Wr ?_
   simp(maxSteps:=1000000)only[VL,VM,↓VG,reduceIte,reduceCtorEq,zA,zB,zC,zD,zE,zF,zG,zH,zI,zJ]
   (repeat refine Ws ?_)
   refine W_ret ?_
   try simp only [thenQ,blockQ]
   refine own_ret1 rfl ?_ (by rfl)
   simp only [get_cons,frz,vtup,zF,if_true,if_false,reduceIte]
   rw [e1]
  rw [if_pos b5] at e1
  simp(maxSteps:=1000000)only[VL,VM,↓VG,reduceIte,reduceCtorEq,zA,zB,zC,zD,zE,zF,zG,zH,zI,zJ,b5]
  (repeat refine Ws ?_);refine Wf ?_
  (repeat refine Ws ?_);refine W_skip ?_
  simp(maxSteps:=1000000)only[VL,VM,↓VG,reduceIte,reduceCtorEq,zA,zB,zC,zD,zE,zF,zG,zH,zI,zJ]
  (repeat refine Ws ?_);refine Wr ?_
  simp(maxSteps:=1000000)only[VL,VM,↓VG,reduceIte,reduceCtorEq,zA,zB,zC,zD,zE,zF,zG,zH,zI,zJ]
  apply call_eq (f := 64) (fn:=Tryz.f64) (by kernel_rfl) (by rfl)
  ·exact span_r c.o _
  simp(maxSteps:=1000000)only[VL,VM,↓VG,reduceIte,reduceCtorEq,zA,zB,zC,zD,zE,zF,zG,zH,zI,zJ]
  (repeat refine Ws ?_)
  refine W_ret ?_
  try simp only [thenQ,blockQ]
  refine own_ret1 rfl ?_ (by rfl)
  simp only [get_cons,frz,vtup,zF,if_true,if_false,reduceIte]
  rw [e1]
 have ka:(0≤d.a) = False:=eq_false ea
 simp(maxSteps:=1000000)only[VL,VM,↓VG,reduceIte,reduceCtorEq,zA,zB,zC,zD,zE,zF,zG,zH,zI,zJ,hd0,hdx',ka]
 (repeat refine Ws ?_);refine Wf ?_
 (repeat refine Ws ?_);refine W_skip ?_
 simp(maxSteps:=1000000)only[VL,VM,↓VG,reduceIte,reduceCtorEq,zA,zB,zC,zD,zE,zF,zG,zH,zI,zJ]
 (repeat refine Ws ?_);refine Wr ?_
 simp(maxSteps:=1000000)only[VL,VM,↓VG,reduceIte,reduceCtorEq,zA,zB,zC,zD,zE,zF,zG,zH,zI,zJ]
 ((repeat refine Ws ?_);refine W_block ?_; (repeat refine Ws ?_)); refine W_loopS (fun i:Nat=>[(0,houseV h),(1,cosV bs),(2,coV c),(3,.ptr M.H.length 0),(5,.ptr (M.H.length + 1) 0),(7,vi i)]) (fun _=>⟨M.H++[.obj (houseC h),.obj [vi c.tick,vi c.door,vi c.i.lo,vi c.i.hi,vi c.o.lo,vi c.o.hi]],M.lg⟩) (fun i=>bs.length - i) (fun i=>i≤bs.length∧(bs.take i).any (sameKey c) = false) 0 ⟨Nat.zero_le _,rfl⟩ ⟨rfl,rfl,rfl,rfl,rfl,rfl,trivial⟩ rfl ?_
 rintro i ⟨hi,hno⟩
 have k1 : -9223372036854775808≤(i:Int) + 1∧(i:Int) + 1 < 9223372036854775808:=by omega
 (repeat refine Ws ?_);refine Wr ?_
 rcases Nat.lt_or_ge i bs.length with hlt | hge
 ·have k2:((i:Int) < (bs.length:Int)) = True:=eq_true (by omega)
  have hx:bs[i]? = some bs[i]:=List.getElem?_eq_getElem hlt
  generalize bs[i] = b at hx
  have hx':=map_at (f:=coP) hx
  simp(maxSteps:=1000000)only[VL,VM,↓VG,reduceIte,reduceCtorEq,zA,zB,zC,zD,zE,zF,zG,zH,zI,zJ,k2]
  (repeat refine Ws ?_);refine Wt ?_
  (repeat refine Ws ?_);refine W_skip ?_
  simp(maxSteps:=1000000)only[VL,VM,↓VG,reduceIte,reduceCtorEq,zA,zB,zC,zD,zE,zF,zG,zH,zI,zJ]
  (repeat refine Ws ?_);refine W_block ?_
  (repeat refine Ws ?_)
  refine W_drawP T_ok [] (by kernel_rfl) (by kernel_rfl) ?_
  generalize hi:mkPlan _ = infs
  cbv at hi
  subst hi
  by_cases t1:b.tick = c.tick
  ·have q1:(b.tick = c.tick) = True:=eq_true t1
   by_cases t2:b.door = c.door
   ·have q2:(b.door = c.door) = True:=eq_true t2
    have hany:bs.any (sameKey c) = true:=any_hit _ _ _ _ hx (by simp [sameKey,t1,t2])
    rw [hany,if_pos rfl] at e1
    simp(maxSteps:=1000000)only[VL,VM,↓VG,reduceIte,reduceCtorEq,zA,zB,zC,zD,zE,zF,zG,zH,zI,zJ,hx',q1,q2]
    (repeat refine Ws ?_);refine Wt ?_
    (repeat refine Ws ?_);refine Wr ?_
    simp(maxSteps:=1000000)only[VL,VM,↓VG,reduceIte,reduceCtorEq,zA,zB,zC,zD,zE,zF,zG,zH,zI,zJ]
    (repeat refine Ws ?_)
    refine W_ret ?_
    try simp only [thenQ,blockQ]
    refine own_ret1 rfl ?_ (by rfl)
    simp only [get_cons,frz,vtup,zF,if_true,if_false,reduceIte]
    rw [e1]
   have q2:(b.door = c.door) = False:=eq_false t2
   simp(maxSteps:=1000000)only[VL,VM,↓VG,reduceIte,reduceCtorEq,zA,zB,zC,zD,zE,zF,zG,zH,zI,zJ,hx',q1,q2]
   (repeat refine Ws ?_);refine Wf ?_
   (repeat refine Ws ?_);refine W_skip ?_
   simp(maxSteps:=1000000)only[VL,VM,↓VG,reduceIte,reduceCtorEq,zA,zB,zC,zD,zE,zF,zG,zH,zI,zJ]
   (repeat refine Ws ?_);refine Wr ?_
   simp(maxSteps:=1000000)only[VL,VM,↓VG,reduceIte,reduceCtorEq,zA,zB,zC,zD,zE,zF,zG,zH,zI,zJ,k1]
   refine LoopK.mk (i + 1) (by omega) ⟨by omega,any_noT hx hno (by simp [sameKey,t2])⟩ ⟨rfl,rfl,rfl,rfl,rfl,rfl,trivial⟩ rfl
  have q1:(b.tick = c.tick) = False:=eq_false t1
  simp(maxSteps:=1000000)only[VL,VM,↓VG,reduceIte,reduceCtorEq,zA,zB,zC,zD,zE,zF,zG,zH,zI,zJ,hx',q1]
  (repeat refine Ws ?_);refine Wf ?_
  (repeat refine Ws ?_);refine W_skip ?_
  simp(maxSteps:=1000000)only[VL,VM,↓VG,reduceIte,reduceCtorEq,zA,zB,zC,zD,zE,zF,zG,zH,zI,zJ]
  (repeat refine Ws ?_);refine Wr ?_
  simp(maxSteps:=1000000)only[VL,VM,↓VG,reduceIte,reduceCtorEq,zA,zB,zC,zD,zE,zF,zG,zH,zI,zJ,k1]
  refine LoopK.mk (i + 1) (by omega) ⟨by omega,any_noT hx hno (by simp [sameKey,t1])⟩ ⟨rfl,rfl,rfl,rfl,rfl,rfl,trivial⟩ rfl
 have k2:((i:Int) < (bs.length:Int)) = False:=eq_false (by omega)
 have hi3:i = bs.length:=by omega
 subst hi3
 rw [List.take_length] at hno
 rw [hno,if_neg (by decide)] at e1
 simp(maxSteps:=1000000)only[VL,VM,↓VG,reduceIte,reduceCtorEq,zA,zB,zC,zD,zE,zF,zG,zH,zI,zJ,k2]
 (repeat refine Ws ?_);refine Wf ?_
 (repeat refine Ws ?_);refine W_exit ?_
 simp(maxSteps:=1000000)only[VL,VM,↓VG,reduceIte,reduceCtorEq,zA,zB,zC,zD,zE,zF,zG,zH,zI,zJ]
 (repeat refine Ws ?_);refine Wr ?_
 simp(maxSteps:=1000000)only[VL,VM,↓VG,reduceIte,reduceCtorEq,zA,zB,zC,zD,zE,zF,zG,zH,zI,zJ]
 apply call_eq (f := 64) (fn:=Tryz.f64) (by kernel_rfl) (by rfl)
 ·exact span_r c.i _
 simp(maxSteps:=1000000)only[VL,VM,↓VG,reduceIte,reduceCtorEq,zA,zB,zC,zD,zE,zF,zG,zH,zI,zJ]
 (repeat refine Ws ?_);refine Wr ?_
 by_cases b5:spErr c.i = 0
 rotate_left
 ·rw [if_neg b5] at e1
  simp(maxSteps:=1000000)only[VL,VM,↓VG,reduceIte,reduceCtorEq,zA,zB,zC,zD,zE,zF,zG,zH,zI,zJ,b5]
  (repeat refine Ws ?_);refine Wt ?_
  (repeat refine Ws ?_);refine Wr ?_
  simp(maxSteps:=1000000)only[VL,VM,↓VG,reduceIte,reduceCtorEq,zA,zB,zC,zD,zE,zF,zG,zH,zI,zJ]
  (repeat refine Ws ?_)
  refine W_ret ?_
  try simp only [thenQ,blockQ]
  refine own_ret1 rfl ?_ (by rfl)
  simp only [get_cons,frz,vtup,zF,if_true,if_false,reduceIte]
  rw [e1]
 rw [if_pos b5] at e1
 simp(maxSteps:=1000000)only[VL,VM,↓VG,reduceIte,reduceCtorEq,zA,zB,zC,zD,zE,zF,zG,zH,zI,zJ,b5]
 (repeat refine Ws ?_);refine Wf ?_
 (repeat refine Ws ?_);refine W_skip ?_
 simp(maxSteps:=1000000)only[VL,VM,↓VG,reduceIte,reduceCtorEq,zA,zB,zC,zD,zE,zF,zG,zH,zI,zJ]
 (repeat refine Ws ?_);refine Wr ?_
 simp(maxSteps:=1000000)only[VL,VM,↓VG,reduceIte,reduceCtorEq,zA,zB,zC,zD,zE,zF,zG,zH,zI,zJ]
 apply call_eq (f := 64) (fn:=Tryz.f64) (by kernel_rfl) (by rfl)
 ·exact span_r c.o _
 simp(maxSteps:=1000000)only[VL,VM,↓VG,reduceIte,reduceCtorEq,zA,zB,zC,zD,zE,zF,zG,zH,zI,zJ]
 (repeat refine Ws ?_)
 refine W_ret ?_
 try simp only [thenQ,blockQ]
 refine own_ret1 rfl ?_ (by rfl)
 simp only [get_cons,frz,vtup,zF,if_true,if_false,reduceIte]
 rw [e1]
set_option maxHeartbeats 1000000 in
set_option maxRecDepth 8000 in
theorem check_r (h:Ho) (M:Mem) (hl:h.holds.length≤1000000) (hld:h.doors.length≤1000000) (hlc:h.counts.length≤1000000):VC Tryz.prog 36 [houseV h] M (fun r M'=>M' = M∧r = vi (houseErr h)):=by
 have e1:=houseErr_parts h
 refine VC_own' T_ok (f := 36) (fn:=Tryz.f36) (by kernel_rfl) rfl Tryz.ntmps36 (by rfl) (by rfl) ?_
 (repeat refine Ws ?_);refine Wr ?_
 simp(maxSteps:=1000000)only[VL,VM,↓VG,reduceIte,reduceCtorEq,zA,zB,zC,zD,zE,zF,zG,zH,zI,zJ]
 (repeat refine Ws ?_);refine Wr ?_
 simp(maxSteps:=1000000)only[VL,VM,↓VG,reduceIte,reduceCtorEq,zA,zB,zC,zD,zE,zF,zG,zH,zI,zJ]
 apply call_eq (f := 63) (fn:=Tryz.f63) (by kernel_rfl) (by rfl)
 ·exact doors_r h _ hl hld
 simp(maxSteps:=1000000)only[VL,VM,↓VG,reduceIte,reduceCtorEq,zA,zB,zC,zD,zE,zF,zG,zH,zI,zJ]
 (repeat refine Ws ?_);refine Wr ?_
 by_cases a1:doorsPart h = 0
 rotate_left
 ·rw [if_neg a1] at e1
  simp(maxSteps:=1000000)only[VL,VM,↓VG,reduceIte,reduceCtorEq,zA,zB,zC,zD,zE,zF,zG,zH,zI,zJ,a1]
  (repeat refine Ws ?_);refine Wt ?_
  (repeat refine Ws ?_);refine Wr ?_
  simp(maxSteps:=1000000)only[VL,VM,↓VG,reduceIte,reduceCtorEq,zA,zB,zC,zD,zE,zF,zG,zH,zI,zJ]
  (repeat refine Ws ?_)
  refine W_ret ?_
  try simp only [thenQ,blockQ]
  refine own_ret1 rfl ?_ (by rfl)
  simp only [get_cons,frz,vtup,zF,if_true,if_false,reduceIte]
  rw [e1]
 rw [if_pos a1] at e1
 unfold restErr at e1
 simp(maxSteps:=1000000)only[VL,VM,↓VG,reduceIte,reduceCtorEq,zA,zB,zC,zD,zE,zF,zG,zH,zI,zJ,a1]
 (repeat refine Ws ?_);refine Wf ?_
 (repeat refine Ws ?_);refine W_skip ?_
 simp(maxSteps:=1000000)only[VL,VM,↓VG,reduceIte,reduceCtorEq,zA,zB,zC,zD,zE,zF,zG,zH,zI,zJ]
 (repeat refine Ws ?_);refine Wr ?_
 simp(maxSteps:=1000000)only[VL,VM,↓VG,reduceIte,reduceCtorEq,zA,zB,zC,zD,zE,zF,zG,zH,zI,zJ]
 apply call_eq (f := 64) (fn:=Tryz.f64) (by kernel_rfl) (by rfl)
 ·exact span_r h.first _
 simp(maxSteps:=1000000)only[VL,VM,↓VG,reduceIte,reduceCtorEq,zA,zB,zC,zD,zE,zF,zG,zH,zI,zJ]
 (repeat refine Ws ?_);refine Wr ?_
 by_cases a2:spErr h.first = 0
 rotate_left
 ·rw [if_neg a2] at e1
  simp(maxSteps:=1000000)only[VL,VM,↓VG,reduceIte,reduceCtorEq,zA,zB,zC,zD,zE,zF,zG,zH,zI,zJ,a2]
  (repeat refine Ws ?_);refine Wt ?_
  (repeat refine Ws ?_);refine Wr ?_
  simp(maxSteps:=1000000)only[VL,VM,↓VG,reduceIte,reduceCtorEq,zA,zB,zC,zD,zE,zF,zG,zH,zI,zJ]
  (repeat refine Ws ?_)
  refine W_ret ?_
  try simp only [thenQ,blockQ]
  refine own_ret1 rfl ?_ (by rfl)
  simp only [get_cons,frz,vtup,zF,if_true,if_false,reduceIte]
  rw [e1]
 rw [if_pos a2] at e1
 simp(maxSteps:=1000000)only[VL,VM,↓VG,reduceIte,reduceCtorEq,zA,zB,zC,zD,zE,zF,zG,zH,zI,zJ,a2]
 (repeat refine Ws ?_);refine Wf ?_
 (repeat refine Ws ?_);refine W_skip ?_
 simp(maxSteps:=1000000)only[VL,VM,↓VG,reduceIte,reduceCtorEq,zA,zB,zC,zD,zE,zF,zG,zH,zI,zJ]
 (repeat refine Ws ?_);refine Wr ?_
 simp(maxSteps:=1000000)only[VL,VM,↓VG,reduceIte,reduceCtorEq,zA,zB,zC,zD,zE,zF,zG,zH,zI,zJ]
 apply call_eq (f := 65) (fn:=Tryz.f65) (by kernel_rfl) (by rfl)
 ·exact within_r _ _ _ _
 cases a3:inR h.ticks 0 12
 ·rw [a3] at e1
  simp(maxSteps:=1000000)only[VL,VM,↓VG,reduceIte,reduceCtorEq,zA,zB,zC,zD,zE,zF,zG,zH,zI,zJ]
  (repeat refine Ws ?_);refine Wt ?_
  (repeat refine Ws ?_);refine Wr ?_
  simp(maxSteps:=1000000)only[VL,VM,↓VG,reduceIte,reduceCtorEq,zA,zB,zC,zD,zE,zF,zG,zH,zI,zJ]
  (repeat refine Ws ?_)
  refine W_ret ?_
  try simp only [thenQ,blockQ]
  refine own_ret1 rfl ?_ (by rfl)
  simp only [get_cons,frz,vtup,zF,if_true,if_false,reduceIte]
  rw [e1]; rfl
 rw [a3,if_pos rfl] at e1
 have hT:=inR_true.1 a3
 simp(maxSteps:=1000000)only[VL,VM,↓VG,reduceIte,reduceCtorEq,zA,zB,zC,zD,zE,zF,zG,zH,zI,zJ]
 (repeat refine Ws ?_);refine Wf ?_
 (repeat refine Ws ?_);refine W_skip ?_
 simp(maxSteps:=1000000)only[VL,VM,↓VG,reduceIte,reduceCtorEq,zA,zB,zC,zD,zE,zF,zG,zH,zI,zJ]
 (repeat refine Ws ?_);refine Wr ?_
 by_cases a4:24 < h.counts.length
 ·have k:((24:Int) < (h.counts.length:Int)) = True:=eq_true (by omega)
  rw [if_pos a4] at e1
  simp(maxSteps:=1000000)only[VL,VM,↓VG,reduceIte,reduceCtorEq,zA,zB,zC,zD,zE,zF,zG,zH,zI,zJ,k]
  (repeat refine Ws ?_);refine Wt ?_
  (repeat refine Ws ?_);refine Wr ?_
  simp(maxSteps:=1000000)only[VL,VM,↓VG,reduceIte,reduceCtorEq,zA,zB,zC,zD,zE,zF,zG,zH,zI,zJ]
  (repeat refine Ws ?_)
  refine W_ret ?_
  try simp only [thenQ,blockQ]
  refine own_ret1 rfl ?_ (by rfl)
  simp only [get_cons,frz,vtup,zF,if_true,if_false,reduceIte]
  rw [e1]
 have k:((24:Int) < (h.counts.length:Int)) = False:=eq_false (by omega)
 rw [if_neg a4] at e1
 simp(maxSteps:=1000000)only[VL,VM,↓VG,reduceIte,reduceCtorEq,zA,zB,zC,zD,zE,zF,zG,zH,zI,zJ,k]
 (repeat refine Ws ?_);refine Wf ?_
 (repeat refine Ws ?_);refine W_skip ?_
 simp(maxSteps:=1000000)only[VL,VM,↓VG,reduceIte,reduceCtorEq,zA,zB,zC,zD,zE,zF,zG,zH,zI,zJ]
 (repeat refine Ws ?_);refine Wr ?_
 simp(maxSteps:=1000000)only[VL,VM,↓VG,reduceIte,reduceCtorEq,zA,zB,zC,zD,zE,zF,zG,zH,zI,zJ]
 ((repeat refine Ws ?_);refine W_block ?_; (repeat refine Ws ?_)); refine W_loopS (fun i:Nat=>[(0,houseV h),(1,.ptr M.H.length 0),(5,vi i)]) (fun _=>⟨M.H++[.obj (houseC h)],M.lg⟩) (fun i=>h.counts.length - i) (fun i=>i≤h.counts.length∧cosErr h [] h.counts = cosErr h (h.counts.take i) (h.counts.drop i)) 0 ⟨Nat.zero_le _,rfl⟩ ⟨rfl,rfl,rfl,trivial⟩ rfl ?_
 rintro i ⟨hi,hce⟩
 have k1 : -9223372036854775808≤(i:Int) + 1∧(i:Int) + 1 < 9223372036854775808:=by omega
 (repeat refine Ws ?_);refine Wr ?_
 rcases Nat.lt_or_ge i h.counts.length with hlt | hge
 ·have k2:((i:Int) < (h.counts.length:Int)) = True:=eq_true (by omega)
  have hx:h.counts[i]? = some h.counts[i]:=List.getElem?_eq_getElem hlt
  generalize h.counts[i] = c at hx
  have hx':=map_at (f:=coP) hx
  have hst:=cosErr_drop hx hce
  have k5:(i≤h.counts.length) = True:=eq_true hi
  have ztk:(h.counts.take i).length≤1000000:=by rw [List.length_take]; omega
  simp(maxSteps:=1000000)only[VL,VM,↓VG,reduceIte,reduceCtorEq,zA,zB,zC,zD,zE,zF,zG,zH,zI,zJ,k2]
  (repeat refine Ws ?_);refine Wt ?_
  (repeat refine Ws ?_);refine W_skip ?_
  simp(maxSteps:=1000000)only[VL,VM,↓VG,reduceIte,reduceCtorEq,zA,zB,zC,zD,zE,zF,zG,zH,zI,zJ]
  (repeat refine Ws ?_);refine W_block ?_
  (repeat refine Ws ?_)
  refine W_drawP T_ok [] (by kernel_rfl) (by kernel_rfl) ?_
  generalize hi:mkPlan _ = infs
  cbv at hi
  subst hi
  simp(maxSteps:=1000000)only[VL,VM,↓VG,reduceIte,reduceCtorEq,zA,zB,zC,zD,zE,zF,zG,zH,zI,zJ,hx',k5]
  apply call_d (f := 66) (fn:=Tryz.f66) (by kernel_rfl) (by rfl)
  ·exact count_r h (h.counts.take i) c _ hld ztk hT
  simp(maxSteps:=1000000)only[VL,VM,↓VG,reduceIte,reduceCtorEq,zA,zB,zC,zD,zE,zF,zG,zH,zI,zJ,hx',k5]
  (repeat refine Ws ?_);refine Wr ?_
  by_cases b2:coErr h (h.counts.take i) c = 0
  rotate_left
  ·rw [if_neg b2] at hst
   rw [hst] at e1
   simp(maxSteps:=1000000)only[VL,VM,↓VG,reduceIte,reduceCtorEq,zA,zB,zC,zD,zE,zF,zG,zH,zI,zJ,b2]
   (repeat refine Ws ?_);refine Wt ?_
   (repeat refine Ws ?_);refine Wr ?_
   simp(maxSteps:=1000000)only[VL,VM,↓VG,reduceIte,reduceCtorEq,zA,zB,zC,zD,zE,zF,zG,zH,zI,zJ]
   (repeat refine Ws ?_)
   refine W_ret ?_
   try simp only [thenQ,blockQ]
   refine own_ret1 rfl ?_ (by rfl)
   simp only [get_cons,frz,vtup,zF,if_true,if_false,reduceIte]
   rw [e1]
  rw [if_pos b2] at hst
  simp(maxSteps:=1000000)only[VL,VM,↓VG,reduceIte,reduceCtorEq,zA,zB,zC,zD,zE,zF,zG,zH,zI,zJ,b2]
  (repeat refine Ws ?_);refine Wf ?_
  (repeat refine Ws ?_);refine W_skip ?_
  simp(maxSteps:=1000000)only[VL,VM,↓VG,reduceIte,reduceCtorEq,zA,zB,zC,zD,zE,zF,zG,zH,zI,zJ]
  (repeat refine Ws ?_);refine Wr ?_
  simp(maxSteps:=1000000)only[VL,VM,↓VG,reduceIte,reduceCtorEq,zA,zB,zC,zD,zE,zF,zG,zH,zI,zJ,k1]
  refine LoopK.mk (i + 1) (by omega) ⟨by omega,hst⟩ ⟨rfl,rfl,rfl,trivial⟩ rfl
 have k2:((i:Int) < (h.counts.length:Int)) = False:=eq_false (by omega)
 have hi3:i = h.counts.length:=by omega
 subst hi3
 rw [List.drop_length,cosErr] at hce
 simp(maxSteps:=1000000)only[VL,VM,↓VG,reduceIte,reduceCtorEq,zA,zB,zC,zD,zE,zF,zG,zH,zI,zJ,k2]
 (repeat refine Ws ?_);refine Wf ?_
 (repeat refine Ws ?_);refine W_exit ?_
 simp(maxSteps:=1000000)only[VL,VM,↓VG,reduceIte,reduceCtorEq,zA,zB,zC,zD,zE,zF,zG,zH,zI,zJ]
 (repeat refine Ws ?_);refine Wr ?_
 simp(maxSteps:=1000000)only[VL,VM,↓VG,reduceIte,reduceCtorEq,zA,zB,zC,zD,zE,zF,zG,zH,zI,zJ]
 (repeat refine Ws ?_)
 refine W_ret ?_
 try simp only [thenQ,blockQ]
 refine own_ret1 rfl ?_ (by rfl)
 simp only [get_cons,frz,vtup,zF,if_true,if_false,reduceIte]
 rw [e1,hce]
end Go.Proofs.YtekhddlngbppkaaGreatDoor.Vm
