/- A part of the proofs about the doors; no condition. -/
import Derived.Test.YtekhddlngbppkaaGreatDoorB17
import Derived.Test.YtekhddlngbppkaaGreatDoorB30
import Derived.Test.YtekhddlngbppkaaGreatDoorB31
import Derived.Test.YtekhddlngbppkaaGreatDoorB32
import Derived.Test.YtekhddlngbppkaaGreatDoorB36
set_option linter.unusedVariables false
set_option linter.unusedSimpArgs false
open Int renaming reduceLE → zA, reduceLT → zB, reduceToNat → zC, reduceNeg → zD
open Nat renaming reduceLT → zE, reduceEqDiff → zF, reduceAdd → zG, reduceSub → zH, reduceMul → zI, reduceLeDiff → zJ
/- The law of the tallies' tape: what is written is read again, and what is read is what would be written. (Vm) -/
namespace Go.Proofs.YtekhddlngbppkaaGreatDoor.Vm
open Go Go.Proofs
theorem DH_tl (M:Mem) (u:Int) (L:List VObj):DH (M.H++[.dead]) M.H.length u L = M.H++(.obj [uv u] :: L):=by
 unfold DH
 rw [List.append_assoc]
 have:=hset0 M.H ([.dead]++L) (.obj [uv u])
 rw [this]
 rfl
theorem shFin {h:Ho} (s:ShH h):FinH h:=⟨by have:=s.h; omega,by have:=s.d; omega,by have:=s.c; omega⟩
attribute [local irreducible] castF castU fromF fromU oneF oneU
end Go.Proofs.YtekhddlngbppkaaGreatDoor.Vm

/- The reference's check of houses, on values. (Vm) -/
namespace Go.Proofs.YtekhddlngbppkaaGreatDoor.Vm
open Go Go.Proofs
theorem within_r (n lo hi:Int) (M:Mem):VC Tryz.prog 65 [vi n,vi lo,vi hi] M (fun r M'=>M' = M∧r = vb (inR n lo hi)):=by
 refine VC_own' T_ok (f := 65) (fn:=Tryz.f65) (by kernel_rfl) rfl Tryz.ntmps65 (by rfl) (by rfl) ?_
 (repeat refine Ws ?_);refine Wr ?_
 simp(maxSteps:=1000000)only[VL,VM,↓VG,reduceIte,reduceCtorEq,zA,zB,zC,zD,zE,zF,zG,zH,zI,zJ]
 (repeat refine Ws ?_);refine Wr ?_
 by_cases h1:lo≤n
 ·by_cases h2:n≤hi
  ·simp(maxSteps:=1000000)only[VL,VM,↓VG,reduceIte,reduceCtorEq,zA,zB,zC,zD,zE,zF,zG,zH,zI,zJ,h1,h2]
   (repeat refine Ws ?_)
   refine W_ret ?_
   try simp only [thenQ,blockQ]
   refine own_ret10 rfl ?_ (by rfl)
   simp only [get_cons,frz,vtup,zF,if_true,if_false,reduceIte]
   rw [inR_true.2 ⟨h1,h2⟩]
  ·simp(maxSteps:=1000000)only[VL,VM,↓VG,reduceIte,reduceCtorEq,zA,zB,zC,zD,zE,zF,zG,zH,zI,zJ,h1,h2]
   (repeat refine Ws ?_)
   refine W_ret ?_
   try simp only [thenQ,blockQ]
   refine own_ret10 rfl ?_ (by rfl)
   simp only [get_cons,frz,vtup,zF,if_true,if_false,reduceIte]
   simp [inR,h1,h2]
 ·simp(maxSteps:=1000000)only[VL,VM,↓VG,reduceIte,reduceCtorEq,zA,zB,zC,zD,zE,zF,zG,zH,zI,zJ,h1]
  (repeat refine Ws ?_)
  refine W_ret ?_
  try simp only [thenQ,blockQ]
  refine own_ret10 rfl ?_ (by rfl)
  simp only [get_cons,frz,vtup,zF,if_true,if_false,reduceIte]
  simp [inR,h1]
theorem span_r (x:Sp) (M:Mem):VC Tryz.prog 64 [spV x] M (fun r M'=>M' = M∧r = vi (spErr x)):=by
 have e1:spErr x = spErr x:=rfl
 conv at e1=>rhs; unfold spErr
 refine VC_own' T_ok (f := 64) (fn:=Tryz.f64) (by kernel_rfl) rfl Tryz.ntmps64 (by rfl) (by rfl) ?_
 (repeat refine Ws ?_);refine Wr ?_
 simp(maxSteps:=1000000)only[VL,VM,↓VG,reduceIte,reduceCtorEq,zA,zB,zC,zD,zE,zF,zG,zH,zI,zJ]
 (repeat refine Ws ?_);refine Wr ?_
 simp(maxSteps:=1000000)only[VL,VM,↓VG,reduceIte,reduceCtorEq,zA,zB,zC,zD,zE,zF,zG,zH,zI,zJ]
 apply call_eq (f := 65) (fn:=Tryz.f65) (by kernel_rfl) (by rfl)
 ·exact within_r _ _ _ _
 cases h1:inR x.lo 0 10000
 ·rw [h1] at e1
  simp(maxSteps:=1000000)only[VL,VM,↓VG,reduceIte,reduceCtorEq,zA,zB,zC,zD,zE,zF,zG,zH,zI,zJ]
  (repeat refine Ws ?_);refine Wt ?_
  (repeat refine Ws ?_);refine Wr ?_
  simp(maxSteps:=1000000)only[VL,VM,↓VG,reduceIte,reduceCtorEq,zA,zB,zC,zD,zE,zF,zG,zH,zI,zJ]
  (repeat refine Ws ?_)
  refine W_ret ?_
  try simp only [thenQ,blockQ]
  refine own_ret1 rfl ?_ (by rfl)
  simp only [get_cons,frz,vtup,zF,if_true,if_false,reduceIte]
  rw [e1]; rfl
 rw [h1] at e1
 simp(maxSteps:=1000000)only[VL,VM,↓VG,reduceIte,reduceCtorEq,zA,zB,zC,zD,zE,zF,zG,zH,zI,zJ]
 apply call_eq (f := 65) (fn:=Tryz.f65) (by kernel_rfl) (by rfl)
 ·exact within_r _ _ _ _
 cases h2:inR x.hi 0 10000
 ·rw [h2] at e1
  simp(maxSteps:=1000000)only[VL,VM,↓VG,reduceIte,reduceCtorEq,zA,zB,zC,zD,zE,zF,zG,zH,zI,zJ]
  (repeat refine Ws ?_);refine Wt ?_
  (repeat refine Ws ?_);refine Wr ?_
  simp(maxSteps:=1000000)only[VL,VM,↓VG,reduceIte,reduceCtorEq,zA,zB,zC,zD,zE,zF,zG,zH,zI,zJ]
  (repeat refine Ws ?_)
  refine W_ret ?_
  try simp only [thenQ,blockQ]
  refine own_ret1 rfl ?_ (by rfl)
  simp only [get_cons,frz,vtup,zF,if_true,if_false,reduceIte]
  rw [e1]; rfl
 rw [h2,if_pos (show (true && true) = true from rfl)] at e1
 simp(maxSteps:=1000000)only[VL,VM,↓VG,reduceIte,reduceCtorEq,zA,zB,zC,zD,zE,zF,zG,zH,zI,zJ]
 (repeat refine Ws ?_);refine Wf ?_
 (repeat refine Ws ?_);refine W_skip ?_
 simp(maxSteps:=1000000)only[VL,VM,↓VG,reduceIte,reduceCtorEq,zA,zB,zC,zD,zE,zF,zG,zH,zI,zJ]
 (repeat refine Ws ?_);refine Wr ?_
 by_cases h3:x.hi < x.lo
 ·have k:(x.hi < x.lo) = True:=eq_true h3
  rw [if_pos h3] at e1
  simp(maxSteps:=1000000)only[VL,VM,↓VG,reduceIte,reduceCtorEq,zA,zB,zC,zD,zE,zF,zG,zH,zI,zJ,k]
  (repeat refine Ws ?_);refine Wt ?_
  (repeat refine Ws ?_);refine Wr ?_
  simp(maxSteps:=1000000)only[VL,VM,↓VG,reduceIte,reduceCtorEq,zA,zB,zC,zD,zE,zF,zG,zH,zI,zJ]
  (repeat refine Ws ?_)
  refine W_ret ?_
  try simp only [thenQ,blockQ]
  refine own_ret1 rfl ?_ (by rfl)
  simp only [get_cons,frz,vtup,zF,if_true,if_false,reduceIte]
  rw [e1]
 have k:(x.hi < x.lo) = False:=eq_false h3
 rw [if_neg h3] at e1
 simp(maxSteps:=1000000)only[VL,VM,↓VG,reduceIte,reduceCtorEq,zA,zB,zC,zD,zE,zF,zG,zH,zI,zJ,k]
 (repeat refine Ws ?_);refine Wf ?_
 (repeat refine Ws ?_);refine W_skip ?_
 simp(maxSteps:=1000000)only[VL,VM,↓VG,reduceIte,reduceCtorEq,zA,zB,zC,zD,zE,zF,zG,zH,zI,zJ]
 (repeat refine Ws ?_);refine Wr ?_
 simp(maxSteps:=1000000)only[VL,VM,↓VG,reduceIte,reduceCtorEq,zA,zB,zC,zD,zE,zF,zG,zH,zI,zJ]
 (repeat refine Ws ?_)
 refine W_ret ?_
 try simp only [thenQ,blockQ]
 refine own_ret1 rfl ?_ (by rfl)
 simp only [get_cons,frz,vtup,zF,if_true,if_false,reduceIte]
 rw [e1]
def doorsPart (h:Ho):Int:=if h.holds.length = 0 then 7 else if 4 < h.holds.length then 6 else if h.holds.all (fun n=>inR n 0 10000) then (if 5 < h.doors.length then 6 else doorsErr h.holds.length h.doors) else 1
theorem houseErr_parts (h:Ho):houseErr h = if doorsPart h = 0 then restErr h else doorsPart h:=by
 unfold houseErr doorsPart
 split
 ·rfl
 ·split
  ·rfl
  ·split
   ·split
    ·rfl
    ·rfl
   ·rfl
set_option maxHeartbeats 1000000 in
set_option maxRecDepth 8000 in
theorem doors_r (h:Ho) (M:Mem) (hl:h.holds.length≤1000000) (hld:h.doors.length≤1000000):VC Tryz.prog 63 [houseV h] M (fun r M'=>M' = M∧r = vi (doorsPart h)):=by
 have e1:doorsPart h = doorsPart h:=rfl
 conv at e1=>rhs; unfold doorsPart
 refine VC_own' T_ok (f := 63) (fn:=Tryz.f63) (by kernel_rfl) rfl Tryz.ntmps63 (by rfl) (by rfl) ?_
 (repeat refine Ws ?_);refine Wr ?_
 simp(maxSteps:=1000000)only[VL,VM,↓VG,reduceIte,reduceCtorEq,zA,zB,zC,zD,zE,zF,zG,zH,zI,zJ]
 (repeat refine Ws ?_);refine Wr ?_
 by_cases a1:h.holds.length = 0
 ·have k:((h.holds.length:Int) = 0) = True:=eq_true (by omega)
  rw [if_pos a1] at e1
  simp(maxSteps:=1000000)only[VL,VM,↓VG,reduceIte,reduceCtorEq,zA,zB,zC,zD,zE,zF,zG,zH,zI,zJ,k]
  (repeat refine Ws ?_);refine Wt ?_
  (repeat refine Ws ?_);refine Wr ?_
  simp(maxSteps:=1000000)only[VL,VM,↓VG,reduceIte,reduceCtorEq,zA,zB,zC,zD,zE,zF,zG,zH,zI,zJ]
  (repeat refine Ws ?_)
  refine W_ret ?_
  try simp only [thenQ,blockQ]
  refine own_ret1 rfl ?_ (by rfl)
  simp only [get_cons,frz,vtup,zF,if_true,if_false,reduceIte]
  rw [e1]
 have k:((h.holds.length:Int) = 0) = False:=eq_false (by omega)
 rw [if_neg a1] at e1
 simp(maxSteps:=1000000)only[VL,VM,↓VG,reduceIte,reduceCtorEq,zA,zB,zC,zD,zE,zF,zG,zH,zI,zJ,k]
 (repeat refine Ws ?_);refine Wf ?_
 (repeat refine Ws ?_);refine W_skip ?_
 simp(maxSteps:=1000000)only[VL,VM,↓VG,reduceIte,reduceCtorEq,zA,zB,zC,zD,zE,zF,zG,zH,zI,zJ]
 (repeat refine Ws ?_);refine Wr ?_
 by_cases a2:4 < h.holds.length
 ·have k:((4:Int) < (h.holds.length:Int)) = True:=eq_true (by omega)
  rw [if_pos a2] at e1
  simp(maxSteps:=1000000)only[VL,VM,↓VG,reduceIte,reduceCtorEq,zA,zB,zC,zD,zE,zF,zG,zH,zI,zJ,k]
  (repeat refine Ws ?_);refine Wt ?_
  (repeat refine Ws ?_);refine Wr ?_
  simp(maxSteps:=1000000)only[VL,VM,↓VG,reduceIte,reduceCtorEq,zA,zB,zC,zD,zE,zF,zG,zH,zI,zJ]
  (repeat refine Ws ?_)
  refine W_ret ?_
  try simp only [thenQ,blockQ]
  refine own_ret1 rfl ?_ (by rfl)
  simp only [get_cons,frz,vtup,zF,if_true,if_false,reduceIte]
  rw [e1]
 have k:((4:Int) < (h.holds.length:Int)) = False:=eq_false (by omega)
 rw [if_neg a2] at e1
 simp(maxSteps:=1000000)only[VL,VM,↓VG,reduceIte,reduceCtorEq,zA,zB,zC,zD,zE,zF,zG,zH,zI,zJ,k]
 (repeat refine Ws ?_);refine Wf ?_
 (repeat refine Ws ?_);refine W_skip ?_
 simp(maxSteps:=1000000)only[VL,VM,↓VG,reduceIte,reduceCtorEq,zA,zB,zC,zD,zE,zF,zG,zH,zI,zJ]
 (repeat refine Ws ?_);refine Wr ?_
 simp(maxSteps:=1000000)only[VL,VM,↓VG,reduceIte,reduceCtorEq,zA,zB,zC,zD,zE,zF,zG,zH,zI,zJ]
 ((repeat refine Ws ?_);refine W_block ?_; (repeat refine Ws ?_)); refine W_loopS (fun i:Nat=>[(0,houseV h),(1,.ptr M.H.length 0),(3,vi i)]) (fun _=>⟨M.H++[.obj (houseC h)],M.lg⟩) (fun i=>h.holds.length - i) (fun i=>i≤h.holds.length∧(h.holds.take i).all (fun n=>inR n 0 10000) = true) 0 ⟨Nat.zero_le _,rfl⟩ ⟨rfl,rfl,rfl,trivial⟩ rfl ?_
 rintro i ⟨hi,hal⟩
 have k1 : -9223372036854775808≤(i:Int) + 1∧(i:Int) + 1 < 9223372036854775808:=by omega
 (repeat refine Ws ?_);refine Wr ?_
 rcases Nat.lt_or_ge i h.holds.length with hlt | hge
 ·have k2:((i:Int) < (h.holds.length:Int)) = True:=eq_true (by omega)
  have hx:h.holds[i]? = some h.holds[i]:=List.getElem?_eq_getElem hlt
  have hm:=List.getElem_mem hlt
  generalize h.holds[i] = n at hx hm
  have hx':=map_at (f:=intP) hx
  simp(maxSteps:=1000000)only[VL,VM,↓VG,reduceIte,reduceCtorEq,zA,zB,zC,zD,zE,zF,zG,zH,zI,zJ,k2]
  (repeat refine Ws ?_);refine Wt ?_
  (repeat refine Ws ?_);refine W_skip ?_
  simp(maxSteps:=1000000)only[VL,VM,↓VG,reduceIte,reduceCtorEq,zA,zB,zC,zD,zE,zF,zG,zH,zI,zJ]
  (repeat refine Ws ?_);refine W_block ?_
  (repeat refine Ws ?_);refine Wr ?_
  simp(maxSteps:=1000000)only[VL,VM,↓VG,reduceIte,reduceCtorEq,zA,zB,zC,zD,zE,zF,zG,zH,zI,zJ,hx']
  apply call_eq (f := 65) (fn:=Tryz.f65) (by kernel_rfl) (by rfl)
  ·exact within_r n 0 10000 _
  simp(maxSteps:=1000000)only[VL,VM,↓VG,reduceIte,reduceCtorEq,zA,zB,zC,zD,zE,zF,zG,zH,zI,zJ]
  cases b:inR n 0 10000
  ·have hno:h.holds.all (fun n=>inR n 0 10000) = false:=List.all_eq_false.2 ⟨n,hm,by rw [b]; decide⟩
   rw [hno] at e1
   (repeat refine Ws ?_);refine Wt ?_
   (repeat refine Ws ?_);refine Wr ?_
   simp(maxSteps:=1000000)only[VL,VM,↓VG,reduceIte,reduceCtorEq,zA,zB,zC,zD,zE,zF,zG,zH,zI,zJ]
   (repeat refine Ws ?_)
   refine W_ret ?_
   try simp only [thenQ,blockQ]
   refine own_ret1 rfl ?_ (by rfl)
   simp only [get_cons,frz,vtup,zF,if_true,if_false,reduceIte]
   rw [e1]; rfl
  (repeat refine Ws ?_);refine Wf ?_
  (repeat refine Ws ?_);refine W_skip ?_
  simp(maxSteps:=1000000)only[VL,VM,↓VG,reduceIte,reduceCtorEq,zA,zB,zC,zD,zE,zF,zG,zH,zI,zJ]
  (repeat refine Ws ?_);refine Wr ?_
  simp(maxSteps:=1000000)only[VL,VM,↓VG,reduceIte,reduceCtorEq,zA,zB,zC,zD,zE,zF,zG,zH,zI,zJ,k1]
  refine LoopK.mk (i + 1) (by omega) ⟨by omega,?_⟩ ⟨rfl,rfl,rfl,trivial⟩ rfl
  rw [List.take_add_one,hx,List.all_append,hal,Bool.true_and]
  simp [b]
 have k2:((i:Int) < (h.holds.length:Int)) = False:=eq_false (by omega)
 have hi3:i = h.holds.length:=by omega
 subst hi3
 rw [List.take_length] at hal
 rw [hal,if_pos rfl] at e1
 simp(maxSteps:=1000000)only[VL,VM,↓VG,reduceIte,reduceCtorEq,zA,zB,zC,zD,zE,zF,zG,zH,zI,zJ,k2]
 (repeat refine Ws ?_);refine Wf ?_
 (repeat refine Ws ?_);refine W_exit ?_
 simp(maxSteps:=1000000)only[VL,VM,↓VG,reduceIte,reduceCtorEq,zA,zB,zC,zD,zE,zF,zG,zH,zI,zJ]
 (repeat refine Ws ?_);refine Wr ?_
 by_cases a3:5 < h.doors.length
 ·have q:((5:Int) < (h.doors.length:Int)) = True:=eq_true (by omega)
  rw [if_pos a3] at e1
  simp(maxSteps:=1000000)only[VL,VM,↓VG,reduceIte,reduceCtorEq,zA,zB,zC,zD,zE,zF,zG,zH,zI,zJ,q]
  (repeat refine Ws ?_);refine Wt ?_
  (repeat refine Ws ?_);refine Wr ?_
  simp(maxSteps:=1000000)only[VL,VM,↓VG,reduceIte,reduceCtorEq,zA,zB,zC,zD,zE,zF,zG,zH,zI,zJ]
  (repeat refine Ws ?_)
  refine W_ret ?_
  try simp only [thenQ,blockQ]
  refine own_ret1 rfl ?_ (by rfl)
  simp only [get_cons,frz,vtup,zF,if_true,if_false,reduceIte]
  rw [e1]
 have q:((5:Int) < (h.doors.length:Int)) = False:=eq_false (by omega)
 rw [if_neg a3] at e1
 simp(maxSteps:=1000000)only[VL,VM,↓VG,reduceIte,reduceCtorEq,zA,zB,zC,zD,zE,zF,zG,zH,zI,zJ,q]
 (repeat refine Ws ?_);refine Wf ?_
 (repeat refine Ws ?_);refine W_skip ?_
 simp(maxSteps:=1000000)only[VL,VM,↓VG,reduceIte,reduceCtorEq,zA,zB,zC,zD,zE,zF,zG,zH,zI,zJ]
 (repeat refine Ws ?_);refine Wr ?_
 simp(maxSteps:=1000000)only[VL,VM,↓VG,reduceIte,reduceCtorEq,zA,zB,zC,zD,zE,zF,zG,zH,zI,zJ]
 have k3 : -9223372036854775808≤(h.holds.length:Int) - 1∧(h.holds.length:Int) - 1 < 9223372036854775808:=by omega
 clear k1 k2 hge q hi
 ((repeat refine Ws ?_);refine W_block ?_; (repeat refine Ws ?_)); refine W_loopS (fun s:ChkSt=>[(0,houseV h),(1,.ptr M.H.length 0),(4,vi s.i)]) (fun s=>⟨M.H++(.obj (houseC h) :: s.junk),M.lg⟩) (fun s=>h.doors.length - s.i) (fun s=>s.i≤h.doors.length∧doorsErr h.holds.length h.doors = doorsErr h.holds.length (h.doors.drop s.i)) ⟨0,[]⟩ ⟨Nat.zero_le _,rfl⟩ ⟨rfl,rfl,rfl,trivial⟩ rfl ?_
 rintro ⟨i,junk⟩ ⟨hi,hde⟩
 simp only at hi hde
 have k1 : -9223372036854775808≤(i:Int) + 1∧(i:Int) + 1 < 9223372036854775808:=by omega
 (repeat refine Ws ?_);refine Wr ?_
 rcases Nat.lt_or_ge i h.doors.length with hlt | hge
 ·have k2:((i:Int) < (h.doors.length:Int)) = True:=eq_true (by omega)
  have hx:h.doors[i]? = some h.doors[i]:=List.getElem?_eq_getElem hlt
  generalize h.doors[i] = x at hx
  have hx':=map_at (f:=doP) hx
  have hst:=doorsErr_drop hx hde
  have e2:doErr h.holds.length x = doErr h.holds.length x:=rfl
  conv at e2=>rhs; unfold doErr
  simp(maxSteps:=1000000)only[VL,VM,↓VG,reduceIte,reduceCtorEq,zA,zB,zC,zD,zE,zF,zG,zH,zI,zJ,k2]
  (repeat refine Ws ?_);refine Wt ?_
  (repeat refine Ws ?_);refine W_skip ?_
  simp(maxSteps:=1000000)only[VL,VM,↓VG,reduceIte,reduceCtorEq,zA,zB,zC,zD,zE,zF,zG,zH,zI,zJ]
  (repeat refine Ws ?_);refine W_block ?_
  (repeat refine Ws ?_);refine Wr ?_
  simp(maxSteps:=1000000)only[VL,VM,↓VG,reduceIte,reduceCtorEq,zA,zB,zC,zD,zE,zF,zG,zH,zI,zJ,hx']
  (repeat refine Ws ?_);refine Wr ?_
  simp(maxSteps:=1000000)only[VL,VM,↓VG,reduceIte,reduceCtorEq,zA,zB,zC,zD,zE,zF,zG,zH,zI,zJ,k3]
  apply call_eq (f := 65) (fn:=Tryz.f65) (by kernel_rfl) (by rfl)
  ·exact within_r _ _ _ _
  cases b1:inR x.a (-1) ((h.holds.length:Int) - 1)
  ·rw [b1] at e2
   rw [e2] at hst
   simp(maxSteps:=1000000)only[VL,VM,↓VG,reduceIte,reduceCtorEq,zA,zB,zC,zD,zE,zF,zG,zH,zI,zJ]
   (repeat refine Ws ?_);refine Wt ?_
   (repeat refine Ws ?_);refine Wr ?_
   simp(maxSteps:=1000000)only[VL,VM,↓VG,reduceIte,reduceCtorEq,zA,zB,zC,zD,zE,zF,zG,zH,zI,zJ]
   (repeat refine Ws ?_)
   refine W_ret ?_
   try simp only [thenQ,blockQ]
   refine own_ret1 rfl ?_ (by rfl)
   simp only [get_cons,frz,vtup,zF,if_true,if_false,reduceIte]
   rw [e1,hst]; rfl
  rw [b1] at e2
  simp(maxSteps:=1000000)only[VL,VM,↓VG,reduceIte,reduceCtorEq,zA,zB,zC,zD,zE,zF,zG,zH,zI,zJ,k3]
  apply call_eq (f := 65) (fn:=Tryz.f65) (by kernel_rfl) (by rfl)
  ·exact within_r _ _ _ _
  cases b2:inR x.b (-1) ((h.holds.length:Int) - 1)
  ·rw [b2] at e2
   rw [e2] at hst
   simp(maxSteps:=1000000)only[VL,VM,↓VG,reduceIte,reduceCtorEq,zA,zB,zC,zD,zE,zF,zG,zH,zI,zJ]
   (repeat refine Ws ?_);refine Wt ?_
   (repeat refine Ws ?_);refine Wr ?_
   simp(maxSteps:=1000000)only[VL,VM,↓VG,reduceIte,reduceCtorEq,zA,zB,zC,zD,zE,zF,zG,zH,zI,zJ]
   (repeat refine Ws ?_)
   refine W_ret ?_
   try simp only [thenQ,blockQ]
   refine own_ret1 rfl ?_ (by rfl)
   simp only [get_cons,frz,vtup,zF,if_true,if_false,reduceIte]
   rw [e1,hst]; rfl
  rw [b2,if_pos (show (true && true) = true from rfl)] at e2
  simp(maxSteps:=1000000)only[VL,VM,↓VG,reduceIte,reduceCtorEq,zA,zB,zC,zD,zE,zF,zG,zH,zI,zJ]
  (repeat refine Ws ?_);refine Wf ?_
  (repeat refine Ws ?_);refine W_skip ?_
  simp(maxSteps:=1000000)only[VL,VM,↓VG,reduceIte,reduceCtorEq,zA,zB,zC,zD,zE,zF,zG,zH,zI,zJ]
  (repeat refine Ws ?_);refine Wr ?_
  by_cases b3:x.a = x.b
  ·have q:(x.a = x.b) = True:=eq_true b3
   rw [if_pos b3] at e2
   rw [e2] at hst
   simp(maxSteps:=1000000)only[VL,VM,↓VG,reduceIte,reduceCtorEq,zA,zB,zC,zD,zE,zF,zG,zH,zI,zJ,q]
   (repeat refine Ws ?_);refine Wt ?_
   (repeat refine Ws ?_);refine Wr ?_
   simp(maxSteps:=1000000)only[VL,VM,↓VG,reduceIte,reduceCtorEq,zA,zB,zC,zD,zE,zF,zG,zH,zI,zJ]
   (repeat refine Ws ?_)
   refine W_ret ?_
   try simp only [thenQ,blockQ]
   refine own_ret1 rfl ?_ (by rfl)
   simp only [get_cons,frz,vtup,zF,if_true,if_false,reduceIte]
   rw [e1,hst]; rfl
  have q:(x.a = x.b) = False:=eq_false b3
  rw [if_neg b3] at e2
  simp(maxSteps:=1000000)only[VL,VM,↓VG,reduceIte,reduceCtorEq,zA,zB,zC,zD,zE,zF,zG,zH,zI,zJ,q]
  (repeat refine Ws ?_);refine Wf ?_
  (repeat refine Ws ?_);refine W_skip ?_
  simp(maxSteps:=1000000)only[VL,VM,↓VG,reduceIte,reduceCtorEq,zA,zB,zC,zD,zE,zF,zG,zH,zI,zJ]
  (repeat refine Ws ?_);refine Wr ?_
  simp(maxSteps:=1000000)only[VL,VM,↓VG,reduceIte,reduceCtorEq,zA,zB,zC,zD,zE,zF,zG,zH,zI,zJ]
  apply call_eq (f := 65) (fn:=Tryz.f65) (by kernel_rfl) (by rfl)
  ·exact within_r _ _ _ _
  cases b4:inR x.flow 0 10000
  ·rw [b4] at e2
   rw [e2] at hst
   simp(maxSteps:=1000000)only[VL,VM,↓VG,reduceIte,reduceCtorEq,zA,zB,zC,zD,zE,zF,zG,zH,zI,zJ]
   (repeat refine Ws ?_);refine Wt ?_
   (repeat refine Ws ?_);refine Wr ?_
   simp(maxSteps:=1000000)only[VL,VM,↓VG,reduceIte,reduceCtorEq,zA,zB,zC,zD,zE,zF,zG,zH,zI,zJ]
   (repeat refine Ws ?_)
   refine W_ret ?_
   try simp only [thenQ,blockQ]
   refine own_ret1 rfl ?_ (by rfl)
   simp only [get_cons,frz,vtup,zF,if_true,if_false,reduceIte]
   rw [e1,hst]; rfl
  rw [b4,if_pos rfl] at e2
  rw [e2,if_pos rfl] at hst
  simp(maxSteps:=1000000)only[VL,VM,↓VG,reduceIte,reduceCtorEq,zA,zB,zC,zD,zE,zF,zG,zH,zI,zJ]
  (repeat refine Ws ?_);refine Wf ?_
  (repeat refine Ws ?_);refine W_skip ?_
  simp(maxSteps:=1000000)only[VL,VM,↓VG,reduceIte,reduceCtorEq,zA,zB,zC,zD,zE,zF,zG,zH,zI,zJ]
  (repeat refine Ws ?_);refine Wr ?_
  simp(maxSteps:=1000000)only[VL,VM,↓VG,reduceIte,reduceCtorEq,zA,zB,zC,zD,zE,zF,zG,zH,zI,zJ,k1]
  refine LoopK.mk ⟨i + 1,junk++[.obj [vi x.a,vi x.b,vi x.flow]]⟩ (by simp only; omega) ⟨by simp only; omega,hst⟩ ⟨rfl,rfl,rfl,trivial⟩ rfl
 have k2:((i:Int) < (h.doors.length:Int)) = False:=eq_false (by omega)
 have hi3:i = h.doors.length:=by omega
 subst hi3
 rw [List.drop_length,doorsErr] at hde
 simp(maxSteps:=1000000)only[VL,VM,↓VG,reduceIte,reduceCtorEq,zA,zB,zC,zD,zE,zF,zG,zH,zI,zJ,k2]
 (repeat refine Ws ?_);refine Wf ?_
 (repeat refine Ws ?_);refine W_exit ?_
 simp(maxSteps:=1000000)only[VL,VM,↓VG,reduceIte,reduceCtorEq,zA,zB,zC,zD,zE,zF,zG,zH,zI,zJ]
 (repeat refine Ws ?_);refine Wr ?_
 simp(maxSteps:=1000000)only[VL,VM,↓VG,reduceIte,reduceCtorEq,zA,zB,zC,zD,zE,zF,zG,zH,zI,zJ]
 (repeat refine Ws ?_)
 refine W_ret ?_
 try simp only [thenQ,blockQ]
 refine own_ret1 rfl ?_ (by rfl)
 simp only [get_cons,frz,vtup,zF,if_true,if_false,reduceIte]
 rw [e1,hde]
end Go.Proofs.YtekhddlngbppkaaGreatDoor.Vm
